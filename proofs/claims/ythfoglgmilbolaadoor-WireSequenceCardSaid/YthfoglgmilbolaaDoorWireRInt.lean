/- What the reference Int returns, and both Ints beyond the string; strings of at most 2 to the 62nd bytes. -/
import Derived.Test.YthfoglgmilbolaaDoorWireInt
namespace Go.Proofs.YthfoglgmilbolaaDoor
open Go.RowKit Wire
set_option maxHeartbeats 1000000 in
theorem int_out (s : ByteArray) (at0 : Int) (w : World) (hs : (s.size : Int) ≤ 4611686018427387904) (h : at0 < 0 ∨ (s.size : Int) < at0) :
    Calls Tryd.prog 15 #[.string s, .int .i64 at0] w fun e w' => e = .returned (.tuple #[.int .i64 0, .int .i64 0, .int .i64 2]) ∧ w = w' := by
  rcases h with h | h
  · go_enter Tryd.func15, Tryd.ntmps15
    go_wp2_with fail
    refine bodyPost_ret (results_tmp3 rfl _ _ _) rfl ?_
    exact ⟨rfl, rfl⟩
  · have h' : ¬ at0 < 0 := by omega
    go_enter Tryd.func15, Tryd.ntmps15
    go_wp2_with fail
    refine bodyPost_ret (results_tmp3 rfl _ _ _) rfl ?_
    exact ⟨rfl, rfl⟩
set_option maxHeartbeats 1000000 in
theorem rint_out (s : ByteArray) (at0 : Int) (w : World) (hs : (s.size : Int) ≤ 4611686018427387904) (h : at0 < 0 ∨ (s.size : Int) < at0) :
    Calls Tryd.prog 16 #[.string s, .int .i64 at0] w fun e w' => e = .returned (.tuple #[.int .i64 0, .int .i64 0, .int .i64 2]) ∧ Below w.heap.size w w' := by
  rcases h with h | h
  · go_enter Tryd.func16, Tryd.ntmps16
    go_wp2_with fail
    refine bodyPost_ret (results_tmp3 rfl _ _ _) rfl ?_
    exact ⟨rfl, Below.refl _ _⟩
  · have h' : ¬ at0 < 0 := by omega
    go_enter Tryd.func16, Tryd.ntmps16
    go_wp2_with fail
    refine bodyPost_ret (results_tmp3 rfl _ _ _) rfl ?_
    exact ⟨rfl, Below.refl _ _⟩

theorem radd_step {Z b k : Nat} (hZ : Z < 128 ^ k) (hk : k < 9) : IntKind.u64.wrap ((Z : Int) + IntKind.u64.wrap ((b : Int) % 128 * 2 ^ (7 * k))) = ((Z + b % 128 * 128 ^ k : Nat) : Int) := by
  have hp : (2 : Int) ^ (7 * k) = ((128 ^ k : Nat) : Int) := by rw [Int.natCast_pow, Int.pow_mul]; rfl
  have h9 := pow_le9 (show k + 1 ≤ 9 by omega)
  have hlt : b % 128 * 128 ^ k < 128 ^ (k + 1) := by rw [Nat.pow_succ, Nat.mul_comm (128 ^ k)]; exact Nat.mul_lt_mul_of_pos_right (by omega) (Nat.pow_pos (by omega))
  have h9' := pow_le9 (show k ≤ 9 by omega)
  rw [hp, IntKind.wrap_u64, IntKind.wrap_u64, show ((b : Int) % 128) = ((b % 128 : Nat) : Int) by omega, ← Int.natCast_mul]
  omega

theorem put_any (n : Int) (w : World) : Calls Tryd.prog 12 #[.int .i64 n] w fun e w' => e = .returned (.tuple #[bs (putI n), .int .i64 (putE n)]) ∧ Below w.heap.size w w' := by
  by_cases h : n < -4611686018427387903 ∨ 4611686018427387903 < n
  · refine (put_no n w h).mono ?_
    rintro e w' ⟨rfl, rfl⟩
    exact ⟨by rw [putI, putE, if_pos h, if_pos h], Below.refl _ _⟩
  · refine (put_yes n w (by omega) (by omega)).mono ?_
    rintro e w' ⟨rfl, hb⟩
    exact ⟨by rw [putI, putE, if_neg h, if_neg h], hb⟩
theorem rput_any (n : Int) (w : World) : Calls Tryd.prog 13 #[.int .i64 n] w fun e w' => e = .returned (.tuple #[bs (putI n), .int .i64 (putE n)]) ∧ Below w.heap.size w w' := by
  by_cases h : n < -4611686018427387903 ∨ 4611686018427387903 < n
  · refine (rput_no n w h).mono ?_
    rintro e w' ⟨rfl, rfl⟩
    exact ⟨by rw [putI, putE, if_pos h, if_pos h], Below.refl _ _⟩
  · refine (rput_yes n w (by omega) (by omega)).mono ?_
    rintro e w' ⟨rfl, hb⟩
    exact ⟨by rw [putI, putE, if_neg h, if_neg h], hb⟩

theorem take_snoc_drop (s : ByteArray) (at0 k : Nat) (hlt : at0 + k < s.size) : (s.data.toList.drop at0).take (k + 1) = (s.data.toList.drop at0).take k ++ [s[at0 + k]'hlt] := by
  have hsz : s.data.toList.length = s.size := by simp
  rw [List.take_succ_eq_append_getElem (by rw [List.length_drop]; omega)]
  simp
  rfl
theorem ext_take (s : ByteArray) (a k : Nat) : (s.extract a (a + k + 1)).toList = (s.data.toList.drop a).take (k + 1) := by
  rw [ByteArray.toList_eq, ByteArray.data_extract, Array.toList_extract]
  simp [List.extract]
  congr 1; omega
/-- the reference's test at the last byte: the encoding of the number, against the bytes that were read -/
theorem last_test {s : ByteArray} {at0 k Z : Nat} (hlt : at0 + k < s.size) (hp : Heavy ((s.data.toList.drop at0).take k)) (hv : val ((s.data.toList.drop at0).take k) = Z) (hb : ¬ 128 ≤ (s[at0 + k]'hlt).toNat)
    (hpr : ¬ unzz (Z + (s[at0 + k]'hlt).toNat % 128 * 128 ^ k) < -4611686018427387903) :
    ((s[at0 + k]'hlt).toNat = 0 ∧ 0 < k) ↔ ¬ enc (Z + (s[at0 + k]'hlt).toNat % 128 * 128 ^ k) = (s.data.toList.drop at0).take (k + 1) := by
  have hsz : s.data.toList.length = s.size := by simp
  have hlen : ((s.data.toList.drop at0).take k).length = k := by rw [List.length_take, List.length_drop]; omega
  have htk : (s.data.toList.drop at0).take (k + 1) = (s.data.toList.drop at0).take k ++ [s[at0 + k]'hlt] := by
    rw [List.take_succ_eq_append_getElem (by rw [List.length_drop]; omega)]
    simp
    rfl
  have hval : Z + (s[at0 + k]'hlt).toNat % 128 * 128 ^ k = val ((s.data.toList.drop at0).take k ++ [s[at0 + k]'hlt]) := by rw [val_append, hv, hlen]
  rw [htk, hval]
  constructor
  · rintro ⟨h0, hk⟩ he
    obtain ⟨q, c, hq, hq2, hc, hl, _⟩ := enc_shape _ (val ((s.data.toList.drop at0).take k ++ [s[at0 + k]'hlt])) (Nat.le_refl _)
    rw [he] at hq
    obtain ⟨e1, e2⟩ := List.append_inj' hq rfl
    simp at e2
    subst e2
    rcases hl with hl | hl
    · exact hl h0
    · rw [← e1] at hl; rw [hl] at hlen; simp at hlen; omega
  · intro hne
    by_cases h0 : (s[at0 + k]'hlt).toNat = 0 ∧ 0 < k
    · exact h0
    · exfalso
      refine hne (enc_val hp (by omega) ?_)
      rcases Nat.eq_zero_or_pos k with hk | hk
      · right; rw [hk, List.take_zero]
      · left; exact fun e => h0 ⟨e, hk⟩

set_option maxRecDepth 100000 in
set_option maxHeartbeats 2000000 in
theorem rint_in (s : ByteArray) (at0 : Nat) (w : World) (hs : (s.size : Int) ≤ 4611686018427387904) (h : at0 ≤ s.size) :
    Calls Tryd.prog 16 #[.string s, .int .i64 (at0 : Int)] w fun e w' => e = .returned (intTup at0 (dec (s.data.toList.drop at0))) ∧ Below w.heap.size w w' := by
  have h1 : ¬ (at0 : Int) < 0 := by omega
  have h2 : ¬ (s.size : Int) < (at0 : Int) := by omega
  obtain ⟨D, hD⟩ : ∃ D, dec (s.data.toList.drop at0) = D := ⟨_, rfl⟩
  rw [hD]
  have HD := Lib.hid hD
  clear hD
  go_enter Tryd.func16, Tryd.ntmps16
  go_wp2_with fail
  go_loop [7, 8] (fun z i => ∃ (k Z : Nat), k ≤ 9 ∧ i = .int .i64 (k : Int) ∧ z = .int .u64 (Z : Int) ∧ Z < 128 ^ k ∧ decGo (s.data.toList.drop (at0 + k)) k Z = D ∧
    Heavy ((s.data.toList.drop at0).take k) ∧ val ((s.data.toList.drop at0).take k) = Z) (fun _ i => 9 - (intOf i).toNat)
  case atStart => exact ⟨0, 0, by omega, rfl, rfl, by omega, HD.out, by rw [List.take_zero]; exact heavy_nil, by rw [List.take_zero]; rfl⟩
  case round =>
    obtain ⟨k, Z, hk, rfl, rfl, hZ, hgo, hhv, hvl⟩ := hrel
    have HH := Lib.hid hhv
    have HV := Lib.hid hvl
    clear hhv hvl
    by_cases hk9 : k < 9
    · by_cases hlt : at0 + k < s.size
      · rw [drop_cons s _ hlt, decGo, if_neg (by omega)] at hgo
        have hor := radd_step (b := (s[at0 + k]'hlt).toNat) hZ hk9
        have hZ2 := add_step (b := (s[at0 + k]'hlt).toNat) hZ hk9
        have hpow := pow_le9 (show k + 1 ≤ 9 by omega)
        have hbb : ((s[at0 + k]'hlt).toNat : Int) ≤ 255 := by have := UInt8.toNat_lt (s[at0 + k]'hlt); omega
        have htk := take_snoc_drop s at0 k hlt
        have hlast := fun hb hpr => last_test (Z := Z) hlt HH.out HV.out hb hpr
        have hval : val ((s.data.toList.drop at0).take (k + 1)) = Z + (s[at0 + k]'hlt).toNat % 128 * 128 ^ k := by
          rw [htk, val_append, HV.out, List.length_take, List.length_drop, show s.data.toList.length = s.size by simp, Nat.min_eq_left (by omega)]
        obtain ⟨Z', hZ'⟩ : ∃ Z', Z + (s[at0 + k]'hlt).toNat % 128 * 128 ^ k = Z' := ⟨_, rfl⟩
        rw [hZ'] at hor hZ2 hgo hlast hval
        have hZ3 : (Z' : Int) ≤ 9223372036854775807 := by omega
        have HT := Lib.hid htk
        have HVL := Lib.hid hval
        have HL := Lib.hid hlast
        have HZ2 := Lib.hid hZ2
        clear hZ' hZ2 hpow hZ htk hval hlast
        by_cases hb : 128 ≤ (s[at0 + k]'hlt).toNat
        · rw [if_pos hb] at hgo
          have HG := Lib.hid hgo
          clear hgo
          go_wp2_with fail
          refine ⟨⟨k + 1, Z', by omega, by go_num, rfl, HZ2.out, HG.out, ?_, HVL.out⟩, by simp [intOf]; omega⟩
          rw [HT.out]; exact heavy_snoc HH.out hb
        · rw [if_neg hb] at hgo
          have hd2 : unzz Z' = if Z' % 2 = 1 then -((Z' / 2 : Nat) : Int) - 1 else ((Z' / 2 : Nat) : Int) := rfl
          by_cases hodd : Z' % 2 = 1
          · have ha : (-((Z' : Int) / 2) - 1) = unzz Z' := by rw [hd2, if_pos hodd]; omega
            clear hd2
            have HA := Lib.hid ha
            clear ha
            go_wp2_with fail
            rw [HA.out]
            refine (rput_any _ _).mono ?_
            rintro e w1 ⟨rfl, hB1⟩
            by_cases hr : unzz Z' < -4611686018427387903
            · rw [if_pos (.inr hr)] at hgo
              subst hgo
              rw [show putE (unzz Z') = 10 from if_pos (.inl hr)]
              clear hr
              go_wp2_with fail
              refine bodyPost_ret (results_tmp3 rfl _ _ _) rfl ?_
              exact ⟨rfl, hB1⟩
            · have hle := unzz_le (z := Z') (by omega)
              rw [show putE (unzz Z') = 0 from if_neg (by omega), show putI (unzz Z') = enc Z' by rw [putI, if_neg (by omega), zz_unzz]]
              have HLL := HL.out hb (by omega)
              unfold bs
              by_cases hc : enc Z' = (s.data.toList.drop at0).take (k + 1)
              · rw [if_neg (by rintro (h | h); exact HLL.1 h hc; exact hr h)] at hgo
                subst hgo
                have hcmp : (enc Z' == (s.extract at0 (at0 + k + 1)).toList) = true := by rw [ext_take]; simp [hc]
                have HC := Lib.hid hc
                clear hc HLL hr hle
                go_wp2_with fail
                refine bodyPost_ret (results_tmp3 rfl _ _ _) rfl ?_
                exact ⟨congrArg (fun x => Ending.returned (.tuple #[.int .i64 (unzz Z'), .int .i64 x, .int .i64 0])) (by omega), hB1⟩
              · rw [if_pos (.inl (HLL.2 hc))] at hgo
                subst hgo
                have hcmp : (enc Z' == (s.extract at0 (at0 + k + 1)).toList) = false := by rw [ext_take]; simp [hc]
                have HC := Lib.hid hc
                clear hc HLL hr hle
                go_wp2_with fail
                refine bodyPost_ret (results_tmp3 rfl _ _ _) rfl ?_
                exact ⟨rfl, hB1⟩
          · have ha : ((Z' : Int) / 2) = unzz Z' := by rw [hd2, if_neg hodd]; omega
            clear hd2
            have HA := Lib.hid ha
            clear ha
            go_wp2_with fail
            rw [HA.out]
            refine (rput_any _ _).mono ?_
            rintro e w1 ⟨rfl, hB1⟩
            by_cases hr : unzz Z' < -4611686018427387903
            · rw [if_pos (.inr hr)] at hgo
              subst hgo
              rw [show putE (unzz Z') = 10 from if_pos (.inl hr)]
              clear hr
              go_wp2_with fail
              refine bodyPost_ret (results_tmp3 rfl _ _ _) rfl ?_
              exact ⟨rfl, hB1⟩
            · have hle := unzz_le (z := Z') (by omega)
              rw [show putE (unzz Z') = 0 from if_neg (by omega), show putI (unzz Z') = enc Z' by rw [putI, if_neg (by omega), zz_unzz]]
              have HLL := HL.out hb (by omega)
              unfold bs
              by_cases hc : enc Z' = (s.data.toList.drop at0).take (k + 1)
              · rw [if_neg (by rintro (h | h); exact HLL.1 h hc; exact hr h)] at hgo
                subst hgo
                have hcmp : (enc Z' == (s.extract at0 (at0 + k + 1)).toList) = true := by rw [ext_take]; simp [hc]
                have HC := Lib.hid hc
                clear hc HLL hr hle
                go_wp2_with fail
                refine bodyPost_ret (results_tmp3 rfl _ _ _) rfl ?_
                exact ⟨congrArg (fun x => Ending.returned (.tuple #[.int .i64 (unzz Z'), .int .i64 x, .int .i64 0])) (by omega), hB1⟩
              · rw [if_pos (.inl (HLL.2 hc))] at hgo
                subst hgo
                have hcmp : (enc Z' == (s.extract at0 (at0 + k + 1)).toList) = false := by rw [ext_take]; simp [hc]
                have HC := Lib.hid hc
                clear hc HLL hr hle
                go_wp2_with fail
                refine bodyPost_ret (results_tmp3 rfl _ _ _) rfl ?_
                exact ⟨rfl, hB1⟩
      · have hd : s.data.toList.drop (at0 + k) = [] := List.drop_eq_nil_of_le (by simpa using hlt)
        rw [hd, decGo] at hgo
        subst hgo
        clear hd
        go_wp2_with fail
        refine bodyPost_ret (results_tmp3 rfl _ _ _) rfl ?_
        exact ⟨rfl, Below.refl _ _⟩
    · obtain rfl : k = 9 := by omega
      have hn : D = none := by
        rw [← hgo]
        cases s.data.toList.drop (at0 + 9) with
        | nil => rfl
        | cons b t => rw [decGo, if_pos (by omega)]
      subst hn
      clear hgo hZ
      go_wp2_with fail
      refine bodyPost_ret (results_tmp3 rfl _ _ _) rfl ?_
      exact ⟨rfl, Below.refl _ _⟩
end Go.Proofs.YthfoglgmilbolaaDoor
