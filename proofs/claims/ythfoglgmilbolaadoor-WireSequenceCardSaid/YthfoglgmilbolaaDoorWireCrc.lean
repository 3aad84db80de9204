/- What Sum returns, of the program and of the reference; condition: the table of the program lies in memory. -/
import Derived.Test.YthfoglgmilbolaaDoorWireStr
import Derived.Test.YthfoglgmilbolaaDoorWireSum
namespace Go.Proofs.YthfoglgmilbolaaDoor
open Go.RowKit Wire
/-- the table of the checksum lies in memory -/
def Nib (w : World) : Prop := 0 < w.heap.size ∧ ∀ k : Nat, k < 16 → w.cell? ⟨0, k, none⟩ = some (.int .u32 (nibN k : Int))
theorem Nib.below {w w' : World} {B : Nat} (h : Nib w) (hb : Below B w w') (hB : w.heap.size ≤ B) : Nib w' :=
  ⟨Nat.lt_of_lt_of_le h.1 hb.size, fun k hk => (hb.cell (p := ⟨0, k, none⟩) (Nat.lt_of_lt_of_le h.1 hB)).trans (h.2 k hk)⟩
theorem nibN_lt (k : Nat) : nibN k < 4294967296 := by
  by_cases h : k < 16
  · rw [← nib_step k h]; exact stepK_lt 4 (by omega)
  · rw [nibN, List.getD, List.getElem?_eq_none (by simp [nibTab]; omega)]; decide
theorem not_u32 (r : Nat) (h : r < 4294967296) : (4294967295 : Nat) ^^^ r = 4294967295 - r := by
  have e := congrArg BitVec.toNat (BitVec.xor_allOnes (x := BitVec.ofNat 32 r))
  rw [BitVec.toNat_xor, BitVec.toNat_not, BitVec.toNat_allOnes, BitVec.toNat_ofNat, Nat.mod_eq_of_lt (by simpa using h)] at e
  rw [Nat.xor_comm]
  simpa using e
theorem crc_snoc (s : ByteArray) (k : Nat) (h : k < s.size) : crcF 4294967295 (s.data.toList.take (k + 1)) = stepK 8 (crcF 4294967295 (s.data.toList.take k) ^^^ (s[k]'h).toNat) := by
  rw [List.take_succ_eq_append_getElem (by simpa using h), crcF_snoc]; rfl

set_option maxRecDepth 100000 in
set_option maxHeartbeats 2000000 in
theorem sum_any (s : ByteArray) (w : World) (hs : (s.size : Int) ≤ 4611686018427387904) (hN : Nib w) :
    Calls Tryd.prog 21 #[.string s] w fun e w' => e = .returned (.int .i64 (crc s.data.toList : Int)) ∧ w = w' := by
  have HN := Lib.hid hN.2
  clear hN
  go_enter Tryd.func21, Tryd.ntmps21
  go_wp2_with fail
  go_loop [3, 7] (fun r i => ∃ (k R : Nat), k ≤ s.size ∧ i = .int .i64 (k : Int) ∧ r = .int .u32 (R : Int) ∧ R < 4294967296 ∧ crcF 4294967295 (s.data.toList.take k) = R) (fun _ i => s.size - (intOf i).toNat)
  case atStart => exact ⟨0, 4294967295, by omega, rfl, rfl, by omega, rfl⟩
  case round =>
    obtain ⟨k, R, hk, rfl, rfl, hR, hgo⟩ := hrel
    by_cases hlt : k < s.size
    · have hsn := crc_snoc s k hlt
      rw [hgo] at hsn
      have h1 : R ^^^ (s[k]'hlt).toNat < 4294967296 := Nat.xor_lt_two_pow (n := 32) hR (byte_lt _)
      have e1 : bits BinOp.xor IntKind.u32 (R : Int) ((s[k]'hlt).toNat : Int) = ((R ^^^ (s[k]'hlt).toNat : Nat) : Int) := u32_xor_nat _ _ (by omega) (byte_lt _)
      obtain ⟨R1, hR1⟩ : ∃ R1, R ^^^ (s[k]'hlt).toNat = R1 := ⟨_, rfl⟩
      rw [hR1] at h1 e1 hsn
      have hbb : ((s[k]'hlt).toNat : Int) ≤ 255 := by have := UInt8.toNat_lt (s[k]'hlt); omega
      have half : ∀ x : Nat, x < 4294967296 → bits BinOp.and IntKind.u32 (x : Int) 15 = ((x % 16 : Nat) : Int) ∧ bits BinOp.xor IntKind.u32 ((x : Int) / 16) (nibN (x % 16) : Int) = ((stepK 4 x : Nat) : Int) := by
        intro x hx
        refine ⟨?_, ?_⟩
        · have := u32_and_nat x 15 (by omega) (by omega)
          rw [nat_mask4] at this
          exact this
        · rw [← nib_four, show ((x : Int) / 16) = ((x / 16 : Nat) : Int) by omega]
          exact u32_xor_nat _ _ (by omega) (nibN_lt _)
      obtain ⟨a1, x1⟩ := half R1 h1
      have c1 := HN.out (R1 % 16) (by omega)
      obtain ⟨a2, x2⟩ := half (stepK 4 R1) (stepK_lt 4 h1)
      have c2 := HN.out (stepK 4 R1 % 16) (by omega)
      have h2 : stepK 4 R1 < 4294967296 := stepK_lt 4 h1
      have h3 : stepK 4 (stepK 4 R1) < 4294967296 := stepK_lt 4 h2
      rw [show 8 = 4 + 4 from rfl, stepK_add] at hsn
      have HS := Lib.hid hsn
      clear half hR1 hgo hsn
      go_wp2_with fail
      exact ⟨⟨k + 1, _, by omega, by go_num, rfl, h3, HS.out⟩, by simp [intOf]; omega⟩
    · have hk' : k = s.size := by omega
      have e3 : bits BinOp.xor IntKind.u32 IntKind.u32.max (R : Int) = ((4294967295 - R : Nat) : Int) := by
        have := u32_xor_nat 4294967295 R (by omega) (by omega)
        rw [not_u32 R hR] at this
        exact this
      have HR : Hid (crc s.data.toList = 4294967295 - R) := by
        unfold Hid crc
        rw [← hgo, hk', List.take_of_length_le (by simp)]
      have HK := Lib.hid hk'
      clear hgo hk'
      go_wp2_with fail
      go_ret
      exact ⟨ret_int (by rw [HR.out]; first | (exact IntWalk.wrap64_in _ (by omega)) | omega), rfl⟩

set_option maxRecDepth 100000 in
set_option maxHeartbeats 2000000 in
theorem rsum_any (s : ByteArray) (w : World) (hs : (s.size : Int) ≤ 4611686018427387904) :
    Calls Tryd.prog 22 #[.string s] w fun e w' => e = .returned (.int .i64 (crc s.data.toList : Int)) ∧ w = w' := by
  go_enter Tryd.func22, Tryd.ntmps22
  go_wp2_with fail
  go_loop [3, 4] (fun r i => ∃ (k R : Nat), k ≤ s.size ∧ i = .int .i64 (k : Int) ∧ r = .int .u32 (R : Int) ∧ R < 4294967296 ∧ crcF 4294967295 (s.data.toList.take k) = R) (fun _ i => s.size - (intOf i).toNat)
  case atStart => exact ⟨0, 4294967295, by omega, rfl, rfl, by omega, rfl⟩
  case round =>
    obtain ⟨k, R, hk, rfl, rfl, hR, hgo⟩ := hrel
    by_cases hlt : k < s.size
    · have hsn := crc_snoc s k hlt
      rw [hgo] at hsn
      have h1 : R ^^^ (s[k]'hlt).toNat < 4294967296 := Nat.xor_lt_two_pow (n := 32) hR (byte_lt _)
      have e1 : bits BinOp.xor IntKind.u32 (R : Int) ((s[k]'hlt).toNat : Int) = ((R ^^^ (s[k]'hlt).toNat : Nat) : Int) := u32_xor_nat _ _ (by omega) (byte_lt _)
      obtain ⟨R1, hR1⟩ : ∃ R1, R ^^^ (s[k]'hlt).toNat = R1 := ⟨_, rfl⟩
      rw [hR1] at h1 e1 hsn
      have hbb : ((s[k]'hlt).toNat : Int) ≤ 255 := by have := UInt8.toNat_lt (s[k]'hlt); omega
      have HS := Lib.hid hsn
      clear hR1 hgo hsn
      go_wp2_with fail
      go_loop [3, 5] (fun r j => ∃ (m Q : Nat), m ≤ 8 ∧ j = .int .i64 (m : Int) ∧ r = .int .u32 (Q : Int) ∧ Q < 4294967296 ∧ stepK m R1 = Q) (fun _ j => 8 - (intOf j).toNat)
      case atStart => exact ⟨0, R1, by omega, rfl, rfl, h1, rfl⟩
      case round =>
        obtain ⟨m, Q, hm, rfl, rfl, hQ, hst⟩ := hrel
        have HQ := Lib.hid hst
        clear hst
        by_cases hm8 : m < 8
        · have hs1 := stepK_succ m R1
          rw [HQ.out] at hs1
          by_cases hodd : Q % 2 = 1
          · rw [stepN, if_pos hodd] at hs1
            have e2 : bits BinOp.xor IntKind.u32 ((Q : Int) / 2) 2197175160 = ((Q / 2 ^^^ 2197175160 : Nat) : Int) := by
              rw [show ((Q : Int) / 2) = ((Q / 2 : Nat) : Int) by omega]
              exact u32_xor_nat (Q / 2) 2197175160 (by omega) (by omega)
            have h2 : Q / 2 ^^^ 2197175160 < 4294967296 := Nat.xor_lt_two_pow (n := 32) (by omega) (by decide)
            have HS1 := Lib.hid hs1
            have hb2 : ((Q : Int) % 2 == 1) = true := by simp; omega
            clear hs1
            go_wp2_with fail
            exact ⟨⟨m + 1, _, by omega, by go_num, rfl, h2, HS1.out⟩, by simp [intOf]; omega⟩
          · rw [stepN, if_neg hodd] at hs1
            have HS1 := Lib.hid hs1
            have hb2 : ((Q : Int) % 2 == 1) = false := by simp; omega
            clear hs1
            go_wp2_with fail
            exact ⟨⟨m + 1, Q / 2, by omega, by go_num, by go_num, by omega, HS1.out⟩, by simp [intOf]; omega⟩
        · have hm' : m = 8 := by omega
          have HM : Hid (stepK 8 R1 = Q) := by unfold Hid; rw [← hm']; exact HQ.out
          clear hm'
          go_wp2_with fail
          exact ⟨⟨k + 1, _, by omega, by go_num, rfl, hQ, by rw [HS.out, HM.out]⟩, by simp [intOf]; omega⟩
    · have hk' : k = s.size := by omega
      have e3 : bits BinOp.xor IntKind.u32 IntKind.u32.max (R : Int) = ((4294967295 - R : Nat) : Int) := by
        have := u32_xor_nat 4294967295 R (by omega) (by omega)
        rw [not_u32 R hR] at this
        exact this
      have HR : Hid (crc s.data.toList = 4294967295 - R) := by
        unfold Hid crc
        rw [← hgo, hk', List.take_of_length_le (by simp)]
      have HK := Lib.hid hk'
      clear hgo hk'
      go_wp2_with fail
      go_ret
      exact ⟨ret_int (by rw [HR.out]; first | (exact IntWalk.wrap64_in _ (by omega)) | omega), rfl⟩
end Go.Proofs.YthfoglgmilbolaaDoor
