/- What Int returns at an offset within a string of at most 2 to the 62nd bytes. -/
import Derived.Test.YthfoglgmilbolaaDoorWirePut
namespace Go.Proofs.YthfoglgmilbolaaDoor
open Go.RowKit Wire
/-- what Int returns -/
def intTup (at0 : Nat) : Option (Int × Nat) → Value
  | none => .tuple #[.int .i64 0, .int .i64 0, .int .i64 10]
  | some (n, k) => .tuple #[.int .i64 n, .int .i64 ((at0 : Int) + (k : Int)), .int .i64 0]

theorem or_step {Z b k : Nat} (hZ : Z < 128 ^ k) (hk : k < 9) (hb : b < 256) :
    bits BinOp.or IntKind.u64 (Z : Int) (IntKind.u64.wrap (IntKind.u64.wrap (bits BinOp.and IntKind.u8 (b : Int) 127) * 2 ^ (7 * k))) = ((Z + b % 128 * 128 ^ k : Nat) : Int) := by
  have h1 := u8_and_nat b 127 hb (by omega)
  rw [nat_mask7] at h1
  have hp : (2 : Int) ^ (7 * k) = ((128 ^ k : Nat) : Int) := by rw [Int.natCast_pow, Int.pow_mul]; rfl
  have h9 := pow_le9 (show k + 1 ≤ 9 by omega)
  have hlt : b % 128 * 128 ^ k < 128 ^ (k + 1) := by rw [Nat.pow_succ, Nat.mul_comm (128 ^ k)]; exact Nat.mul_lt_mul_of_pos_right (by omega) (Nat.pow_pos (by omega))
  have h9' := pow_le9 (show k ≤ 9 by omega)
  rw [show (127 : Int) = ((127 : Nat) : Int) from rfl, h1, hp, IntKind.wrap_u64, IntKind.wrap_u64]
  have e1 : ((b % 128 : Nat) : Int) % 18446744073709551616 = ((b % 128 : Nat) : Int) := by omega
  rw [e1, ← Int.natCast_mul]
  have e2 : ((b % 128 * 128 ^ k : Nat) : Int) % 18446744073709551616 = ((b % 128 * 128 ^ k : Nat) : Int) := by omega
  rw [e2, u64_or_nat _ _ (by omega) (by omega), Nat.or_comm, nat_join (7 * k) _ _ ?_ ?_, Nat.add_comm]
  · rw [Nat.pow_mul]; exact Nat.mul_mod_left _ _
  · rw [Nat.pow_mul]; exact hZ
theorem add_step {Z b k : Nat} (hZ : Z < 128 ^ k) (hk : k < 9) : Z + b % 128 * 128 ^ k < 128 ^ (k + 1) := by
  rw [Nat.pow_succ, Nat.mul_comm (128 ^ k)]
  have : b % 128 * 128 ^ k ≤ 127 * 128 ^ k := Nat.mul_le_mul_right _ (by omega)
  omega
theorem xor_step {Z : Nat} (h : Z < 9223372036854775808) : bits BinOp.xor IntKind.i64 ((Z : Int) / 2) (wrap64 (-wrap64 (bits BinOp.and IntKind.u64 (Z : Int) 1))) = unzz Z := by
  have h1 := u64_and_nat Z 1 (by omega) (by omega)
  rw [nat_mask1] at h1
  rw [show (1 : Int) = ((1 : Nat) : Int) from rfl, h1]
  have e1 : wrap64 ((Z % 2 : Nat) : Int) = ((Z % 2 : Nat) : Int) := IntWalk.wrap64_in _ (by omega)
  have e2 : wrap64 (-((Z % 2 : Nat) : Int)) = -((Z % 2 : Nat) : Int) := IntWalk.wrap64_in _ (by omega)
  rw [e1, e2]
  unfold unzz
  by_cases h2 : Z % 2 = 1
  · rw [if_pos h2, h2]
    show IntKind.i64.wrap ((BitVec.ofInt 64 ((Z : Int) / 2) ^^^ BitVec.ofInt 64 (-1)).toNat : Int) = _
    have e3 : BitVec.ofInt 64 (-1) = BitVec.allOnes 64 := by decide
    rw [e3, BitVec.xor_allOnes, BitVec.toNat_not, show ((Z : Int) / 2) = ((Z / 2 : Nat) : Int) by omega, BitVec.ofInt_natCast, BitVec.toNat_ofNat, IntKind.wrap_i64]
    omega
  · rw [if_neg h2, show Z % 2 = 0 by omega]
    show IntKind.i64.wrap ((BitVec.ofInt 64 ((Z : Int) / 2) ^^^ BitVec.ofInt 64 0).toNat : Int) = _
    have e3 : BitVec.ofInt 64 0 = 0#64 := by decide
    rw [e3, BitVec.xor_zero, show ((Z : Int) / 2) = ((Z / 2 : Nat) : Int) by omega, BitVec.ofInt_natCast, BitVec.toNat_ofNat, IntKind.wrap_i64]
    omega
theorem drop_cons (s : ByteArray) (j : Nat) (h : j < s.size) : s.data.toList.drop j = s[j] :: s.data.toList.drop (j + 1) := by
  rw [List.drop_eq_getElem_cons (by simpa using h)]; rfl

set_option maxRecDepth 100000 in
set_option maxHeartbeats 2000000 in
theorem int_in (s : ByteArray) (at0 : Nat) (w : World) (hs : (s.size : Int) ≤ 4611686018427387904) (h : at0 ≤ s.size) :
    Calls Tryd.prog 15 #[.string s, .int .i64 (at0 : Int)] w fun e w' => e = .returned (intTup at0 (dec (s.data.toList.drop at0))) ∧ w = w' := by
  have h1 : ¬ (at0 : Int) < 0 := by omega
  have h2 : ¬ (s.size : Int) < (at0 : Int) := by omega
  obtain ⟨D, hD⟩ : ∃ D, dec (s.data.toList.drop at0) = D := ⟨_, rfl⟩
  rw [hD]
  have HD := Lib.hid hD
  clear hD
  go_enter Tryd.func15, Tryd.ntmps15
  go_wp2_with fail
  go_loop [7, 19] (fun z i => ∃ (k Z : Nat), k ≤ 9 ∧ i = .int .i64 (k : Int) ∧ z = .int .u64 (Z : Int) ∧ Z < 128 ^ k ∧ decGo (s.data.toList.drop (at0 + k)) k Z = D) (fun _ i => 9 - (intOf i).toNat)
  case atStart => exact ⟨0, 0, by omega, rfl, rfl, by omega, HD.out⟩
  case round =>
    obtain ⟨k, Z, hk, rfl, rfl, hZ, hgo⟩ := hrel
    by_cases hk9 : k < 9
    · by_cases hlt : at0 + k < s.size
      · rw [drop_cons s _ hlt, decGo, if_neg (by omega)] at hgo
        have hor := or_step (b := (s[at0 + k]'hlt).toNat) hZ hk9 (UInt8.toNat_lt _)
        have hZ2 := add_step (b := (s[at0 + k]'hlt).toNat) hZ hk9
        have hpow := pow_le9 (show k + 1 ≤ 9 by omega)
        obtain ⟨Z', hZ'⟩ : ∃ Z', Z + (s[at0 + k]'hlt).toNat % 128 * 128 ^ k = Z' := ⟨_, rfl⟩
        rw [hZ'] at hor hZ2 hgo
        have hZ3 : (Z' : Int) ≤ 9223372036854775807 := by omega
        have HZ2 := Lib.hid hZ2
        have hx := xor_step (Z := Z') (by omega)
        clear hZ' hZ2 hpow hZ
        by_cases hb : 128 ≤ (s[at0 + k]'hlt).toNat
        · rw [if_pos hb] at hgo
          have HG := Lib.hid hgo
          clear hgo
          go_wp2_with fail
          exact ⟨⟨k + 1, Z', by omega, by go_num, rfl, HZ2.out, HG.out⟩, by simp [intOf]; omega⟩
        · rw [if_neg hb] at hgo
          by_cases hbad : ((s[at0 + k]'hlt).toNat = 0 ∧ 0 < k) ∨ unzz Z' < -4611686018427387903
          · rw [if_pos hbad] at hgo
            subst hgo
            have HB := Lib.hid hbad
            clear hbad
            go_wp2_with fail
            all_goals first
              | (exfalso; rcases HB.out with ⟨h1, h2⟩ | h1 <;> omega)
              | (refine bodyPost_ret (results_tmp3 rfl _ _ _) rfl ?_; exact ⟨rfl, rfl⟩)
          · rw [if_neg hbad] at hgo
            subst hgo
            have HB := Lib.hid hbad
            clear hbad
            go_wp2_with fail
            all_goals first
              | (exfalso; apply HB.out; omega)
              | (refine bodyPost_ret (results_tmp3 rfl _ _ _) rfl ?_; exact ⟨congrArg (fun x => Ending.returned (.tuple #[.int .i64 (unzz Z'), .int .i64 x, .int .i64 0])) (by omega), rfl⟩)
      · have hd : s.data.toList.drop (at0 + k) = [] := List.drop_eq_nil_of_le (by simpa using hlt)
        rw [hd, decGo] at hgo
        subst hgo
        clear hd
        go_wp2_with fail
        refine bodyPost_ret (results_tmp3 rfl _ _ _) rfl ?_
        exact ⟨rfl, rfl⟩
    · obtain rfl : k = 9 := by omega
      have hn : D = none := by
        rw [← hgo]
        cases s.data.toList.drop (at0 + 9) with
        | nil => rfl
        | cons b t => rw [decGo, if_pos (by omega)]
      subst hn
      clear hgo hZ
      go_wp2_with fail
      refine bodyPost_ret (results_tmp3 rfl _ _ _) rfl ?_
      exact ⟨rfl, rfl⟩
end Go.Proofs.YthfoglgmilbolaaDoor
