/- The walk of the law DigestExtensionAccepted. -/
import Derived.Test.YtoipckflokdakaaDoorLw02ExtA
namespace Go.Proofs.YtoipckflokdakaaDoor
open Go.RowKit Sha Mk
attribute [local go_sem] Oper.semAt_some
theorem strs_take {w : World} {A : Option Addr} {l : List ByteArray} (h : StrsAt w A l) (k : Nat) : StrsAt w A (l.take k) := fun i hi => by
  obtain ⟨b, o, rfl, h1⟩ := h i (by rw [List.length_take] at hi; omega)
  exact StrsAt.take h k i hi
theorem ext_in (A : Option Addr) (cap n k : Nat) (l : List ByteArray) (W : World) (hn : l.length = n) (hA : StrsAt W A l) (hc : n ≤ cap) (hcm : cap ≤ maxLen) (hl : n ≤ 900) (hk : k ≤ n) (hs : ∀ s ∈ l, s.size ≤ 400000) (hK : RoundIn W) :
    Calls Tryd.prog 16 #[.slice A n cap, .int .i64 (k : Int)] W fun e w' => ∃ Ax cx, e = .returned (.tuple #[.slice Ax (extS l k).length cx, .int .i64 0]) ∧ StrsAt w' Ax (extS l k) ∧ (extS l k).length ≤ cx ∧ cx ≤ maxLen ∧ Below W.heap.size W w' := by
  subst hn
  by_cases h0 : k = 0
  · subst h0
    refine (ext_zero A cap l W (by omega)).mono ?_
    rintro e w' ⟨rfl, rfl⟩
    exact ⟨none, 0, rfl, fun i hi => absurd hi (Nat.not_lt_zero _), Nat.le_refl _, Nat.zero_le _, Below.refl _ _⟩
  · have he : extS l k = extP l k true := by rw [extS, if_neg h0]
    rw [he]
    refine (ext_yes A cap l k W hA hc hcm hl (by omega) hk hs hK).mono ?_
    rintro e w' ⟨v, rfl, o, b⟩
    obtain ⟨Ax, cx, rfl, h1, h2, h3⟩ := own_strs o
    exact ⟨Ax, cx, rfl, h1, h2, h3, b⟩
set_option maxRecDepth 100000 in
set_option maxHeartbeats 8000000 in
theorem ext_law (A : Option Addr) (c : Nat) (L : List ByteArray) (m : Int) (w : World) (hK : RoundIn w) (hA : StrsAt w A L) (hl : (L.length : Int) ≤ 9223372036854775807) (hs : ∀ s ∈ L, (s.size : Int) ≤ 9223372036854775807) (m0 : -9223372036854775808 ≤ m) (m1 : m ≤ 9223372036854775807) :
    Calls Tryd.prog 6 #[.slice A L.length c, .int .i64 m] w fun e w' => e = .returned (.bool true) ∧ Below w.heap.size w w' := by
  have HK := Lib.hid hK
  have HA := Lib.hid hA
  have HS := Lib.hid hs
  have HL := Lib.hid hl
  have HF := Lib.hid (fun W h => few_any A c L 25 W h hl (by decide) hs)
  obtain ⟨N, hN⟩ : ∃ N, L.length = N := ⟨_, rfl⟩
  rw [hN] at HF ⊢
  clear hK hA hs hl hN HL
  go_enter Tryd.func6, Tryd.ntmps6
  go_wp2_with fail
  refine (sane_any w HK.out).mono ?_
  rintro e w1 ⟨rfl, b1⟩
  go_wp2_with fail
  refine (HF.out w1 (HA.out.then_ b1)).mono ?_
  rintro e w2 ⟨v2, rfl, o2, b2⟩
  obtain ⟨A2, c2, rfl, s2, l2, c2m⟩ := own_strs o2
  have hz2 := fewS_sizes L 25
  have hl2 : (fewS L 25).length ≤ 25 := by rw [fewS_length]; omega
  obtain ⟨F, hF⟩ : ∃ F, fewS L 25 = F := ⟨_, rfl⟩
  rw [hF] at s2 l2 hz2 hl2 ⊢
  have hz3 : ∀ s ∈ F, s.size ≤ 400000 := fun s h => by have := hz2 s h; omega
  have HZ := Lib.hid hz3
  have B2 := below_next b1 b2
  obtain ⟨n, hn⟩ : ∃ n, F.length = n := ⟨_, rfl⟩
  have HN := Lib.hid hn
  have HE := Lib.hid (fun W k h hk2 hk => ext_in A2 c2 n k F W hn h (by omega) c2m (by omega) hk2 HZ.out hk)
  have HT := Lib.hid (fun W k h hk => root_any A2 c2 (F.take k) W h (by rw [List.length_take]; omega) (fun s h => HZ.out s (List.mem_of_mem_take h)) hk)
  have HX := Lib.hid (fun k h => ext_accepted F k (show k ≤ F.length from h))
  have HSH := Lib.hid (fun k h => ext_short F k (show k ≤ F.length from h))
  have HAL := Lib.hid (fun k h => ext_all F k (show k ≤ F.length from h))
  have HR2 := Lib.hid (fun W h hk => root_any A2 c2 F W h (by omega) HZ.out hk)
  rw [hn] at l2 hl2 HR2 HX HSH HAL ⊢
  have S2 := Lib.hid s2
  clear o2 s2 hz2 hz3 b1 b2 hF hn
  go_wp2_with fail
  refine (HR2.out w2 S2.out (HK.out.then_ B2)).mono ?_
  rintro e w3 ⟨rfl, b3⟩
  have B3 := below_next B2 b3
  have S3 := Lib.hid (S2.out.then_ b3)
  obtain ⟨R, hR⟩ : ∃ R, rootS F = R := ⟨_, rfl⟩
  have hrs : R.size = 32 := by rw [← hR]; exact rootS_size _
  rw [hR] at HX ⊢
  have HR := Lib.hid hR
  clear hR b3 B2
  go_wp2_with fail
  go_loopw [7] (fun i wr => ∃ k : Nat, i = .int .i64 (k : Int) ∧ k ≤ n + 1 ∧ Below w3.heap.size w3 wr) (fun i _ => n + 1 - (intOf i).toNat)
  case atStart => exact ⟨0, rfl, Nat.zero_le _, Below.refl _ _⟩
  case round =>
    obtain ⟨k, rfl, hk, hB⟩ := hrel
    by_cases hkn : k ≤ n
    · have g1 : (k : Int) ≤ (n : Int) := by omega
      have g2 : (0 : Int) ≤ (k : Int) := by omega
      have g3 : (k : Int) ≤ (c2 : Int) := by omega
      have B4 := below_next B3 hB
      have hx := HX.out k hkn
      have hsh := HSH.out k hkn
      have hal := HAL.out k hkn
      obtain ⟨X, hX⟩ : ∃ X, extS F k = X := ⟨_, rfl⟩
      have HEk := Lib.hid (HE.out wr k (S3.out.then_ hB) hkn (HK.out.then_ B4))
      have HTk := Lib.hid (HT.out)
      obtain ⟨Q, hQ⟩ : ∃ Q, rootS (F.take k) = Q := ⟨_, rfl⟩
      have hq : Q.size = 32 := by rw [← hQ]; exact rootS_size _
      rw [hX] at hx hsh hal HEk
      rw [hQ] at hx
      obtain ⟨q, hq2⟩ : ∃ q, binN n = q := ⟨_, rfl⟩
      have HBN := Lib.hid (fun w => binary_any n w (by omega))
      have hq10 := binN_le n (by omega)
      rw [hq2] at hsh hq10 HBN
      have HXk := Lib.hid hx
      have HQ := Lib.hid hQ
      have XS := all_sizes hal
      have HXS := Lib.hid XS
      have e1 : IntKind.i64.wrap (2 * (q : Int)) = 2 * (q : Int) := IntWalk.i64_in _ (by omega)
      have hfl : (F.take k).length = k := by rw [List.length_take, HN.out]; omega
      have HFL := Lib.hid hfl
      have HTq : Hid (∀ W, StrsAt W A2 (F.take k) → RoundIn W → Calls Tryd.prog 19 #[.slice A2 k c2] W fun e w' => e = .returned (.string Q) ∧ Below W.heap.size W w') := by
        show ∀ _, _
        intro W h1 h2
        have := HT.out W k h1 h2
        rwa [HFL.out, HQ.out] at this
      obtain ⟨x, hx2⟩ : ∃ x, X.length = x := ⟨_, rfl⟩
      have HXL := Lib.hid hx2
      have HVX := Lib.hid (fun (W : World) (Ax : Option Addr) (cx : Nat) h1 h2 h3 h4 => vext_any Q k R n Ax cx X W (by omega) (by omega) (by omega) (by omega) (by omega) (by omega) h1 (by omega) h2 h3 (fun s hs => by have := HXS.out s hs; omega) h4)
      rw [hx2] at hsh HEk HVX
      rw [hx] at HVX
      have d1 : ¬ 2 * (q : Int) < (x : Int) := by omega
      have d2 : (x : Int) ≤ 2 * (q : Int) := by omega
      have HS3 := Lib.hid ((S3.out.then_ hB))
      have HB4 := Lib.hid B4
      have HBB := Lib.hid hB
      have hWk : k < n + 1 := by omega
      clear hx hal hX hQ hq2 hfl hx2 XS HXk HTk hB B4 hsh
      go_wp2_with fail
      refine HEk.out.mono ?_
      rintro e w4 ⟨Ax, cx, rfl, sx, lx, mx, b4⟩
      have B5 := below_next HB4.out b4
      have SX := Lib.hid sx
      have SF := Lib.hid (HS3.out.then_ b4)
      go_wp2_with fail
      refine (HBN.out w4).mono ?_
      rintro e w5 ⟨rfl, rfl⟩
      go_wp2_with fail
      refine (HTq.out w4 (strs_take SF.out k) (HK.out.then_ B5)).mono ?_
      rintro e w5 ⟨rfl, b5⟩
      have B6 := below_next B5 b5
      go_wp2_with fail
      refine (HVX.out w5 Ax cx (SX.out.then_ b5) (by omega) mx (HK.out.then_ B6)).mono ?_
      rintro e w6 ⟨rfl, b6⟩
      have B7 : Below w3.heap.size w3 w6 := below_next (below_next (below_next HBB.out b4) b5) b6
      clear b4 b5 b6 B5 B6
      go_wp2_with fail
      refine ⟨⟨k + 1, by rfl, by omega, B7⟩, by simp [intOf]; omega⟩
    · have g1 : ¬ (k : Int) ≤ (n : Int) := by omega
      have B4 := below_next B3 hB
      have HB4 := Lib.hid B4
      have HS3 := Lib.hid (S3.out.then_ hB)
      clear hkn hB B4
      by_cases hin : 0 ≤ m ∧ m ≤ (n : Int)
      · obtain ⟨m', rfl⟩ := Int.eq_ofNat_of_zero_le hin.1
        have g2 : (0 : Int) ≤ (m' : Int) := by omega
        have g3 : (m' : Int) ≤ (n : Int) := hin.2
        have g4 : m' ≤ n := by omega
        clear hin
        go_wp2_with fail
        refine (HE.out wr m' HS3.out g4 (HK.out.then_ HB4.out)).mono ?_
        rintro e w4 ⟨Ax, cx, rfl, -, -, -, b4⟩
        have B5 := below_next HB4.out b4
        clear b4
        go_wp2_with fail
        go_ret
        exact ⟨rfl, B5⟩
      · have hno : m < 0 ∨ (n : Int) < m := by omega
        have hvf : verifyXB R m R n [] = false := by
          rw [verifyXB]
          rcases hno with h | h
          · rw [show decide (0 ≤ m) = false by simpa using h]; rfl
          · rw [show decide (m ≤ (n : Int)) = false by simpa using h]; simp
        have HNO := Lib.hid (fun W => ext_no A2 c2 F m W (by rw [HN.out]; omega) (by rw [HN.out]; exact hno))
        rw [HN.out] at HNO
        have HV := Lib.hid (fun W hk => vext_any R m R n none 0 [] W m0 m1 (by omega) (by omega) (by omega) (by omega) (fun i hi => absurd hi (Nat.not_lt_zero _)) (by decide) (by decide) (by decide) (fun s h => by cases h) hk)
        rw [hvf] at HV
        clear hvf hin
        rcases hno with h | h
        · have g2 : ¬ (0 : Int) ≤ m := by omega
          go_wp2_with fail
          refine (HNO.out wr).mono ?_
          rintro e w4 ⟨rfl, rfl⟩
          go_wp2_with fail
          refine (HV.out wr (HK.out.then_ HB4.out)).mono ?_
          rintro e w5 ⟨rfl, b5⟩
          have B5 := below_next HB4.out b5
          clear b5
          go_wp2_with fail
          go_ret
          exact ⟨rfl, B5⟩
        · have g2 : (0 : Int) ≤ m := by omega
          have g3 : ¬ m ≤ (n : Int) := by omega
          go_wp2_with fail
          refine (HNO.out wr).mono ?_
          rintro e w4 ⟨rfl, rfl⟩
          go_wp2_with fail
          refine (HV.out wr (HK.out.then_ HB4.out)).mono ?_
          rintro e w5 ⟨rfl, b5⟩
          have B5 := below_next HB4.out b5
          clear b5
          go_wp2_with fail
          go_ret
          exact ⟨ret_bool (by simp; omega), B5⟩
end Go.Proofs.YtoipckflokdakaaDoor
