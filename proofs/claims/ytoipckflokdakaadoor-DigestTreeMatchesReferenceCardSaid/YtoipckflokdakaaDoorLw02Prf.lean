/- The walk of the law DigestProofAccepted. -/
import Derived.Test.YtoipckflokdakaaDoorLw02PrfA
import Derived.Test.YtoipckflokdakaaDoorStrsApp
namespace Go.Proofs.YtoipckflokdakaaDoor
open Go.RowKit Sha Mk
attribute [local go_sem] Oper.semAt_some
theorem proof_in (A : Option Addr) (cap n k : Nat) (l : List ByteArray) (W : World) (hn : l.length = n) (hA : StrsAt W A l) (hc : n ≤ cap) (hcm : cap ≤ maxLen) (hl : n ≤ 900) (hk : k < n) (hs : ∀ s ∈ l, s.size ≤ 400000) (hK : RoundIn W) :
    Calls Tryd.prog 14 #[.slice A n cap, .int .i64 (k : Int)] W fun e w' => ∃ Ax cx, e = .returned (.tuple #[.slice Ax (proofS l k).length cx, .int .i64 0]) ∧ StrsAt w' Ax (proofS l k) ∧ (proofS l k).length ≤ cx ∧ cx ≤ maxLen ∧ Below W.heap.size W w' := by
  subst hn
  refine (proof_yes A cap l k W hA hc hcm (by omega) hk hs hK).mono ?_
  rintro e w' ⟨v, rfl, o, b⟩
  obtain ⟨Ax, cx, rfl, h1, h2, h3⟩ := own_strs o
  exact ⟨Ax, cx, rfl, h1, h2, h3, b⟩
set_option maxRecDepth 100000 in
set_option maxHeartbeats 8000000 in
theorem prf_law (A : Option Addr) (c : Nat) (L : List ByteArray) (m : Int) (w : World) (hK : RoundIn w) (hA : StrsAt w A L) (hl : (L.length : Int) ≤ 9223372036854775807) (hs : ∀ s ∈ L, (s.size : Int) ≤ 9223372036854775807) (m0 : -9223372036854775808 ≤ m) (m1 : m ≤ 9223372036854775807) :
    Calls Tryd.prog 5 #[.slice A L.length c, .int .i64 m] w fun e w' => e = .returned (.bool true) ∧ Below w.heap.size w w' := by
  have HK := Lib.hid hK
  have HA := Lib.hid hA
  have HS := Lib.hid hs
  have HL := Lib.hid hl
  have HF := Lib.hid (fun W h => few_any A c L 40 W h hl (by decide) hs)
  obtain ⟨N, hN⟩ : ∃ N, L.length = N := ⟨_, rfl⟩
  rw [hN] at HF ⊢
  clear hK hA hs hl hN HL
  go_enter Tryd.func5, Tryd.ntmps5
  go_wp2_with fail
  refine (sane_any w HK.out).mono ?_
  rintro e w1 ⟨rfl, b1⟩
  go_wp2_with fail
  refine (HF.out w1 (HA.out.then_ b1)).mono ?_
  rintro e w2 ⟨v2, rfl, o2, b2⟩
  obtain ⟨A2, c2, rfl, s2, l2, c2m⟩ := own_strs o2
  have hz2 := fewS_sizes L 40
  have hl2 : (fewS L 40).length ≤ 40 := by rw [fewS_length]; omega
  obtain ⟨F, hF⟩ : ∃ F, fewS L 40 = F := ⟨_, rfl⟩
  rw [hF] at s2 l2 hz2 hl2 ⊢
  have hz3 : ∀ s ∈ F, s.size ≤ 400000 := fun s h => by have := hz2 s h; omega
  have HZ := Lib.hid hz3
  have B2 := below_next b1 b2
  obtain ⟨n, hn⟩ : ∃ n, F.length = n := ⟨_, rfl⟩
  have HN := Lib.hid hn
  have HE := Lib.hid (fun W k h hk2 hk => proof_in A2 c2 n k F W hn h (by omega) c2m (by omega) hk2 HZ.out hk)
  have HX := Lib.hid (fun k h => proof_accepted F k (show k < F.length from h))
  have HSH := Lib.hid (fun k => proofS_short F k)
  have HAL := Lib.hid (fun k => proof_all F k)
  have HRF := Lib.hid (fun k h => proof_refused F k (show k < F.length from h))
  have HR2 := Lib.hid (fun W h hk => root_any A2 c2 F W h (by omega) HZ.out hk)
  rw [hn] at l2 hl2 HR2 HX HSH HRF ⊢
  have S2 := Lib.hid s2
  clear o2 s2 hz2 hz3 b1 b2 hF hn
  go_wp2_with fail
  refine (HR2.out w2 S2.out (HK.out.then_ B2)).mono ?_
  rintro e w3 ⟨rfl, b3⟩
  have B3 := below_next B2 b3
  have S3 := Lib.hid (S2.out.then_ b3)
  obtain ⟨R, hR⟩ : ∃ R, rootS F = R := ⟨_, rfl⟩
  have hrs : R.size = 32 := by rw [← hR]; exact rootS_size _
  rw [hR] at HX HRF ⊢
  have HR := Lib.hid hR
  clear hR b3 B2
  go_wp2_with fail
  go_loopw [7] (fun i wr => ∃ k : Nat, i = .int .i64 (k : Int) ∧ k ≤ n ∧ Below w3.heap.size w3 wr) (fun i _ => n - (intOf i).toNat)
  case atStart => exact ⟨0, rfl, Nat.zero_le _, Below.refl _ _⟩
  case round =>
    obtain ⟨k, rfl, hk, hB⟩ := hrel
    by_cases hkn : k < n
    · have g1 : (k : Int) < (n : Int) := by omega
      have B4 := below_next B3 hB
      have hx := HX.out k hkn
      have hsh := HSH.out k
      have hal := HAL.out k
      obtain ⟨X, hX⟩ : ∃ X, proofS F k = X := ⟨_, rfl⟩
      have HEk := Lib.hid (HE.out wr k (S3.out.then_ hB) hkn (HK.out.then_ B4))
      rw [hX] at hx hsh hal HEk
      obtain ⟨q, hq2⟩ : ∃ q, binN n = q := ⟨_, rfl⟩
      have HBN := Lib.hid (fun w => binary_any n w (by omega))
      have hq10 := binN_le n (by omega)
      rw [hq2] at hsh hq10 HBN
      have XS := all_sizes hal
      have HXS := Lib.hid XS
      obtain ⟨y, hy⟩ : ∃ y, F.getD k ⟨#[]⟩ = y := ⟨_, rfl⟩
      have hys : y.size ≤ 400000 := HZ.out y (by rw [← hy, List.getD, List.getElem?_eq_getElem (by rw [HN.out]; exact hkn)]; exact List.getElem_mem _)
      obtain ⟨b, o, hA2, hcell⟩ := S3.out k (by rw [HN.out]; exact hkn)
      rw [hy] at hx hcell
      have HCE := Lib.hid (cell_then hB hcell)
      have HXk := Lib.hid hx
      obtain ⟨x, hx2⟩ : ∃ x, X.length = x := ⟨_, rfl⟩
      have HVX := Lib.hid (fun (W : World) (Ax : Option Addr) (cx : Nat) h1 h2 h3 h4 => verify_any R n k y Ax cx X W (by omega) (by omega) (by omega) (by omega) hys h1 (by omega) h2 h3 (fun s hs => by have := HXS.out s hs; omega) h4)
      rw [hx2] at hsh HEk HVX
      rw [hx] at HVX
      have d1 : ¬ (q : Int) < (x : Int) := by omega
      have d2 : (x : Int) ≤ (q : Int) := by omega
      have HB4 := Lib.hid B4
      have HBB := Lib.hid hB
      have hWk : k < n := hkn
      subst hA2
      clear hx hal hX hq2 hx2 XS HXk hB B4 hsh hcell hy
      go_wp2_with fail
      refine HEk.out.mono ?_
      rintro e w4 ⟨Ax, cx, rfl, sx, lx, mx, b4⟩
      have B5 := below_next HB4.out b4
      have SX := Lib.hid sx
      have HCF := Lib.hid (cell_then b4 HCE.out)
      go_wp2_with fail
      refine (HBN.out w4).mono ?_
      rintro e w5 ⟨rfl, rfl⟩
      have hcell := HCF.out
      go_wp2_with fail
      refine (HVX.out w4 Ax cx (SX.out) (by omega) mx (HK.out.then_ B5)).mono ?_
      rintro e w6 ⟨rfl, b6⟩
      have B7 : Below w3.heap.size w3 w6 := below_next (below_next HBB.out b4) b6
      clear b4 b6 B5 hcell
      go_wp2_with fail
      refine ⟨⟨k + 1, by rfl, by omega, B7⟩, by simp [intOf]; omega⟩
    · have g1 : ¬ (k : Int) < (n : Int) := by omega
      have B4 := below_next B3 hB
      have HB4 := Lib.hid B4
      have HS3 := Lib.hid (S3.out.then_ hB)
      clear hkn hB B4
      by_cases hin : 0 ≤ m ∧ m < (n : Int)
      · obtain ⟨m', rfl⟩ := Int.eq_ofNat_of_zero_le hin.1
        have g2 : (0 : Int) ≤ (m' : Int) := by omega
        have g3 : (m' : Int) < (n : Int) := hin.2
        have hm : m' < n := by omega
        have g4 : decide ((m' : Int) < (n : Int)) = true := by simpa using g3
        have hrf := HRF.out m' hm
        have hal := HAL.out m'
        have HEk := Lib.hid (HE.out wr m' HS3.out hm (HK.out.then_ HB4.out))
        obtain ⟨X, hX⟩ : ∃ X, proofS F m' = X := ⟨_, rfl⟩
        rw [hX] at hrf hal HEk
        obtain ⟨y, hy⟩ : ∃ y, F.getD m' ⟨#[]⟩ = y := ⟨_, rfl⟩
        have hys : y.size ≤ 400000 := HZ.out y (by rw [← hy, List.getD, List.getElem?_eq_getElem (by rw [HN.out]; exact hm)]; exact List.getElem_mem _)
        obtain ⟨b, o, hA2, hcell⟩ := HS3.out m' (by rw [HN.out]; exact hm)
        rw [hy] at hrf hcell
        have HCE := Lib.hid hcell
        have hx40 : X.length ≤ 10 := by
          have h1 := HSH.out m'
          have h2 := binN_le n (by omega)
          rw [hX] at h1
          omega
        obtain ⟨x, hx2⟩ : ∃ x, X.length = x := ⟨_, rfl⟩
        have HXL := Lib.hid hx2
        have HXS := Lib.hid (all_sizes hal)
        have HRX := Lib.hid hrf
        rw [hx2] at HEk hx40
        subst hA2
        clear hX hrf hal hcell hy hx2 hin
        go_wp2_with fail
        refine HEk.out.mono ?_
        rintro e w4 ⟨Ax, cx, rfl, sx, lx, mx, b4⟩
        have B5 := Lib.hid (below_next HB4.out b4)
        have SX := Lib.hid sx
        have C4 := cell_then b4 HCE.out
        have HV1 := Lib.hid (fun (W : World) (Ay : Option Addr) (cy : Nat) h1 h2 h3 h4 => verify_any R n m' y Ay cy (X ++ [R]) W (by omega) (by omega) (by omega) (by omega) hys h1 (by have := HXL.out; simp; omega) h2 h3 (fun s hs => by
          rcases List.mem_append.1 hs with h | h
          · have := HXS.out s h; omega
          · rw [List.mem_singleton.1 h]; omega) h4)
        rw [HRX.out (X ++ [R]) (by simp [HXL.out])] at HV1
        clear sx b4
        go_wp2_with fail
        have HC4 := Lib.hid C4
        obtain ⟨i0, hi0, hz0, hz1, hz2⟩ := info_parts str_info1
        have I1 := Lib.hid hi0
        have I2 := Lib.hid hz0
        have I3 := Lib.hid hz1
        have I4 := Lib.hid hz2
        clear hi0 hz0 hz1 hz2
        have len7 : (X ++ [R]).length = x + 1 := by simp [HXL.out]
        rw [len7] at HV1
        go_region_held3 (fun w' => Below w4.heap.size w4 w' ∧ w'.cell? ⟨b, o + m', none⟩ = some (.string y)) ((suffices hB : Below w4.heap.size w4 _ from ⟨hB, cell_then hB HC4.out⟩; repeat (first | with_reducible exact Below.refl _ _ | with_reducible refine below_alloc ?_ _ | with_reducible refine Below.drew ?_ | with_reducible exact HB5.out | with_reducible exact HB6.out | with_reducible exact HB7.out))) (first | (go_at_call 21; (with_reducible refine (HV1.out _ Ay cy s6 l6 m6 (HK.out.then_ (below_next B5.out HB6.out))).mono ?_); rintro e w7 ⟨rfl, b7⟩; have HB7 := Lib.hid (below_next HB6.out b7)) | (refine step_append_strs (by rfl) _ _ 22 (by rfl) w4.heap.size 9 i0 _ Tryd.underlying22 I1.out I2.out I3.out I4.out rfl _ 0 [] (by rfl) (own_lit (xs := []) (by first | exact heap_alloc_new _ _ | exact lit_old _ _ _ | exact lit_new2 _ _ _) (by simp) (by simp)) Ax x cx X HXL.out (by rfl) (SX.out.then_ (by (repeat (first | with_reducible exact Below.refl _ _ | with_reducible refine below_alloc ?_ _ | with_reducible refine Below.drew ?_ | with_reducible exact HB5.out | with_reducible exact HB6.out)))) (by omega) (by first | (simp; done) | (simp; omega) | omega) ?_; intro v5 w5 o5 k5; have HB5 := Lib.hid (k5.below_next (B := w4.heap.size) (w0 := w4) (by (repeat (first | with_reducible exact Below.refl _ _ | with_reducible refine below_alloc ?_ _ | with_reducible refine Below.drew ?_ | with_reducible exact HB5.out | with_reducible exact HB6.out))) (by first | (simp; done) | (simp; omega) | omega) (fun k hk => by have e := own_mem hk; simp only [Value.ownBlock] at e; injection e with e; (try simp only [World.size_alloc] at e); (try simp at e); omega)); have hv5 := fun g => (o5.lt g); have hs5 := HB5.out.size) | (refine step_append_strs (by rfl) _ _ 22 (by rfl) w4.heap.size 9 i0 _ Tryd.underlying22 I1.out I2.out I3.out I4.out rfl v5 (0 + x) ([] ++ X) (by rfl) (by first | exact o5 | exact own_then o5 (by repeat (first | with_reducible exact Below.refl _ _ | with_reducible refine below_alloc ?_ _ | with_reducible refine Below.drew ?_))) (some ⟨_, 0, none⟩) 1 1 [R] rfl (by rfl) (lit_strs (by first | exact heap_alloc_new _ _ | exact lit_old _ _ _ | exact lit_new2 _ _ _ | exact k5.heap (by first | exact heap_alloc_new _ _ | exact lit_old _ _ _ | exact lit_new2 _ _ _) (by simp [Value.ownBlock]))) (by omega) (by first | (simp; done) | (simp; omega) | omega) ?_; intro v6 w6 o6 k6; have HB6 := Lib.hid (k6.below_next (B := w4.heap.size) (w0 := w4) (by (repeat (first | with_reducible exact Below.refl _ _ | with_reducible refine below_alloc ?_ _ | with_reducible refine Below.drew ?_ | with_reducible exact HB5.out | with_reducible exact HB6.out))) (by first | (simp; done) | (simp; omega) | omega) (fun k hk => (hv5 k (own_mem hk)).1)); have o7 : w6.ownsRow w4.heap.size 9 1 v6 (X ++ [R]).length (svs (X ++ [R])) := (by rw [show (X ++ [R]).length = 0 + x + 1 by simp [HXL.out]]; exact o6); obtain ⟨Ay, cy, rfl, s6, l6, m6⟩ := own_strs o7; rw [len7] at l6 ⊢))
        all_goals
          have HC7 := Lib.hid (cell_then HB7.out HC4.out)
          have HK7 := Lib.hid (HK.out.then_ (below_next B5.out HB7.out))
          have HB8 := Lib.hid (below_next B5.out HB7.out)
          have SX7 := Lib.hid (SX.out.then_ HB7.out)
          clear HB7 HB6 HB5
          go_wp2_with fail
          by_cases hx0 : x = 0
          · have hd : decide ((0 : Int) < (x : Int)) = false := by simp; omega
            refine wp_region_quiet_below (by kernel_rfl) (by kernel_rfl) ?_
            repeat (go_big_quiet_step (fail))
            refine wpQuiet_nil ?_
            intro wq hq0
            have hq := below_of_class hq0
            clear hq0
            go_wp2_with fail
            all_goals
              go_ret
              exact ⟨rfl, below_next HB8.out hq⟩
          · obtain ⟨x', rfl⟩ : ∃ x', x = x' + 1 := ⟨x - 1, by omega⟩
            obtain ⟨bx, ox, rfl, _⟩ := SX7.out 0 (by rw [HXL.out]; omega)
            have hd : decide ((0 : Int) < (x' : Int) + 1) = true := by simp only [decide_eq_true_eq]; omega
            have hsd : StrsAt w7 (if cx = 1 then some ⟨bx, ox, none⟩ else some ⟨bx, ox + 1, none⟩) (X.drop 1) := by
              split
              · rw [List.drop_eq_nil_of_le (by rw [HXL.out]; omega)]; exact strs_nil _ _
              · exact SX7.out.drop 1
            have HSD := Lib.hid hsd
            clear hsd
            have HV2 := Lib.hid (fun (d : Nat) (os : Array Obj) => verify_any R n m' y (if cx = 1 then some ⟨bx, ox, none⟩ else some ⟨bx, ox + 1, none⟩) (cx - 1) (X.drop 1) (Sort.grow (redrawn w7 d) os) (by omega) (by omega) (by omega) (by omega) hys (HSD.out.then_ (below_regrown w7 d os)) (by rw [List.length_drop, HXL.out]; omega) (by rw [List.length_drop, HXL.out]; omega) (by omega) (fun s hs => by have := HXS.out s (List.mem_of_mem_drop hs); omega) (HK7.out.then_ (below_regrown w7 d os)))
            rw [HRX.out (X.drop 1) (by rw [List.length_drop, HXL.out]; omega)] at HV2
            have hdl : (X.drop 1).length = x' := by rw [List.length_drop, HXL.out]; omega
            rw [hdl] at HV2
            have g_1 := fun D os => cell_regrown HC7.out D os
            have i2 : (1 : Int) ≤ (x' : Int) + 1 := by omega
            refine wp_region_quiet_below (by kernel_rfl) (by kernel_rfl) ?_
            repeat (go_big_quiet_step (first | (with_reducible exact Calls.regrown_of (HV2.out _ _))))
            refine wpQuiet_nil ?_
            intro wq hq0
            have hq := below_of_class hq0
            clear hq0
            clear g_1
            go_wp2_with fail
            all_goals
              go_ret
              exact ⟨rfl, below_next HB8.out hq⟩
      · have hno : m < 0 ∨ (n : Int) ≤ m := by omega
        have hvf : verifyB R n m ⟨#[]⟩ [] = false := verify_out _ _ _ _ _ hno
        have HNO := Lib.hid (fun W => proof_no A2 c2 F m W (by rw [HN.out]; omega) (by rw [HN.out]; exact hno))
        rw [HN.out] at HNO
        have HV := Lib.hid (fun W hk => verify_any R n m ⟨#[]⟩ none 0 [] W (by omega) (by omega) m0 m1 (by decide) (fun i hi => absurd hi (Nat.not_lt_zero _)) (by decide) (by decide) (by decide) (fun s h => by cases h) hk)
        rw [hvf] at HV
        clear hvf hin
        rcases hno with h | h
        · have g2 : ¬ (0 : Int) ≤ m := by omega
          go_wp2_with fail
          refine (HNO.out wr).mono ?_
          rintro e w4 ⟨rfl, rfl⟩
          go_wp2_with fail
          refine (HV.out wr (HK.out.then_ HB4.out)).mono ?_
          rintro e w5 ⟨rfl, b5⟩
          have B5 := below_next HB4.out b5
          clear b5
          go_wp2_with fail
          go_ret
          exact ⟨rfl, B5⟩
        · have g2 : (0 : Int) ≤ m := by omega
          have g3 : ¬ m < (n : Int) := by omega
          have g4 : decide (m < (n : Int)) = false := by simpa using g3
          go_wp2_with fail
          refine (HNO.out wr).mono ?_
          rintro e w4 ⟨rfl, rfl⟩
          go_wp2_with fail
          refine (HV.out wr (HK.out.then_ HB4.out)).mono ?_
          rintro e w5 ⟨rfl, b5⟩
          have B5 := below_next HB4.out b5
          clear b5
          go_wp2_with fail
          go_ret
          exact ⟨rfl, B5⟩
end Go.Proofs.YtoipckflokdakaaDoor
