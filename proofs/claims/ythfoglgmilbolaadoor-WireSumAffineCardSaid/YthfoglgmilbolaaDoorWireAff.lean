/- The checksum of an exclusive or, in plain Lean. -/
import Derived.Test.YthfoglgmilbolaaDoorWireSum
namespace Go.Proofs.YthfoglgmilbolaaDoor.Wire
theorem ones_xor {f : Nat} (h : f < 4294967296) : (4294967295 : Nat) ^^^ f = 4294967295 - f := by
  have e := congrArg BitVec.toNat (BitVec.xor_allOnes (x := BitVec.ofNat 32 f))
  rw [BitVec.toNat_xor, BitVec.toNat_not, BitVec.toNat_allOnes, BitVec.toNat_ofNat, Nat.mod_eq_of_lt (by simpa using h)] at e
  rw [Nat.xor_comm]
  simpa using e
/-- bytes, one by one -/
def xorL : List UInt8 → List UInt8 → List UInt8
  | a :: l, b :: m => (a ^^^ b) :: xorL l m
  | _, _ => []
theorem xorL_len : ∀ (l m : List UInt8), l.length = m.length → (xorL l m).length = l.length
  | [], _, _ => by simp [xorL]
  | a :: l, [], h => by simp at h
  | a :: l, b :: m, h => by simp only [xorL, List.length_cons]; rw [xorL_len l m (by simpa using h)]
theorem xorL_get : ∀ (l m : List UInt8) (k : Nat) (h : k < l.length) (h' : k < m.length) (h'' : k < (xorL l m).length), (xorL l m)[k] = l[k] ^^^ m[k]
  | a :: l, b :: m, 0, _, _, _ => rfl
  | a :: l, b :: m, k + 1, h, h', h'' => by simp only [xorL, List.getElem_cons_succ]; exact xorL_get l m k _ _ _
theorem mul_xor (x y : Nat) : 2 ^ 8 * (x ^^^ y) = (2 ^ 8 * x) ^^^ (2 ^ 8 * y) := by
  have := @Nat.shiftLeft_xor_distrib 8 x y
  simp only [Nat.shiftLeft_eq] at this
  rw [Nat.mul_comm, this, Nat.mul_comm x, Nat.mul_comm y]
theorem xor_mix (a b x y : Nat) : (a ^^^ b) ^^^ (x ^^^ y) = (a ^^^ x) ^^^ (b ^^^ y) := by
  rw [Nat.xor_assoc, Nat.xor_assoc, ← Nat.xor_assoc b, Nat.xor_comm b, Nat.xor_assoc]
theorem num_xorL : ∀ (l m : List UInt8), l.length = m.length → num (xorL l m) = num l ^^^ num m
  | [], [], _ => by simp [xorL, num]
  | [], b :: m, h => by simp at h
  | a :: l, [], h => by simp at h
  | a :: l, b :: m, h => by
    rw [xorL, num_cons, num_cons, num_cons, num_xorL l m (by simpa using h), UInt8.toNat_xor, mul_xor, xor_mix]
theorem crcF_ones (l : List UInt8) : crcF 4294967295 l < 4294967296 := crcF_lt l (by omega)
theorem crc_xor3 (a b c : List UInt8) (h : a.length = b.length) (h' : b.length = c.length) : crc (xorL (xorL a b) c) = (crc a ^^^ crc b) ^^^ crc c := by
  have l1 := xorL_len a b h
  have l2 := xorL_len (xorL a b) c (by omega)
  have e1 := crcF_xor (xorL a b) c (xorL (xorL a b) c) (4294967295 ^^^ 4294967295) 4294967295 (by omega) (by omega) (num_xorL _ _ (by omega))
  have e2 := crcF_xor a b (xorL a b) 4294967295 4294967295 h (by omega) (num_xorL _ _ h)
  rw [e2, Nat.xor_self, Nat.zero_xor] at e1
  unfold crc
  rw [← ones_xor (crcF_ones _), ← ones_xor (crcF_ones a), ← ones_xor (crcF_ones b), ← ones_xor (crcF_ones c), e1]
  have e3 : (4294967295 ^^^ crcF 4294967295 a) ^^^ (4294967295 ^^^ crcF 4294967295 b) = crcF 4294967295 a ^^^ crcF 4294967295 b := by rw [xor_mix, Nat.xor_self, Nat.zero_xor]
  rw [e3]
  generalize crcF 4294967295 a ^^^ crcF 4294967295 b = X
  rw [← Nat.xor_assoc, ← Nat.xor_assoc, Nat.xor_comm X]
theorem crc_lt (l : List UInt8) : crc l < 4294967296 := by unfold crc; omega

theorem pow_xor (n x y : Nat) : 2 ^ n * (x ^^^ y) = (2 ^ n * x) ^^^ (2 ^ n * y) := by
  have := @Nat.shiftLeft_xor_distrib n x y
  simp only [Nat.shiftLeft_eq] at this
  rw [Nat.mul_comm, this, Nat.mul_comm x, Nat.mul_comm y]
/-- one bit of a list of bytes changed -/
theorem num_set : ∀ (L : List UInt8) (q : Nat) (r : Nat) (hq : q < L.length) (v : UInt8), v.toNat = (L[q]'hq).toNat ^^^ 2 ^ r → num (L.set q v) = num L ^^^ 2 ^ (8 * q + r)
  | b :: t, 0, r, _, v, hv => by
    rw [List.set_cons_zero, num_cons, num_cons, hv]
    simp only [List.getElem_cons_zero, Nat.mul_zero, Nat.zero_add]
    rw [Nat.xor_assoc, Nat.xor_comm (2 ^ r), ← Nat.xor_assoc]
  | b :: t, q + 1, r, hq, v, hv => by
    rw [List.set_cons_succ, num_cons, num_cons, num_set t q r (by simpa using hq) v (by simpa using hv), pow_xor, ← Nat.pow_add, ← Nat.xor_assoc, show 8 + (8 * q + r) = 8 * (q + 1) + r by omega]
theorem bits_succ (B k : Nat) : B % 2 ^ (k + 1) = if B / 2 ^ k % 2 = 1 then (B % 2 ^ k) ^^^ 2 ^ k else B % 2 ^ k := by
  have hp : 0 < 2 ^ k := Nat.pow_pos (by omega)
  have hm := Nat.mod_lt B hp
  rw [Nat.mod_pow_succ]
  by_cases h : B / 2 ^ k % 2 = 1
  · rw [if_pos h, h, Nat.mul_one]
    have h2 := xor_split k (B % 2 ^ k + 2 ^ k)
    rw [Nat.add_div_right _ hp, Nat.div_eq_of_lt hm, Nat.add_mod_right, Nat.mod_mod, Nat.mul_one] at h2
    rw [h2, Nat.xor_comm]
  · rw [if_neg h, show B / 2 ^ k % 2 = 0 by omega, Nat.mul_zero, Nat.add_zero]
/-- the round of a change: the bits below k are changed; now bit k -/
theorem burst_step {L L0 : List UInt8} {B f k q r : Nat} (hn : num L = num L0 ^^^ (2 ^ f * (B % 2 ^ k))) (hb : B / 2 ^ k % 2 = 1) (hq : q < L.length) (hfk : f + k = 8 * q + r) {v : UInt8} (hv : v.toNat = (L[q]'hq).toNat ^^^ 2 ^ r) :
    num (L.set q v) = num L0 ^^^ (2 ^ f * (B % 2 ^ (k + 1))) := by
  rw [num_set L q r hq v hv, hn, bits_succ, if_pos hb, pow_xor, ← Nat.pow_add, hfk, Nat.xor_assoc]
theorem burst_same {L L0 : List UInt8} {B f k : Nat} (hn : num L = num L0 ^^^ (2 ^ f * (B % 2 ^ k))) (hb : ¬ B / 2 ^ k % 2 = 1) : num L = num L0 ^^^ (2 ^ f * (B % 2 ^ (k + 1))) := by
  rw [hn, bits_succ, if_neg hb]
theorem bits_zero {B k : Nat} (hb : ¬ B / 2 ^ k % 2 = 1) : B % 2 ^ (k + 1) = 0 ↔ B % 2 ^ k = 0 := by rw [bits_succ, if_neg hb]
theorem bits_one {B k : Nat} (hb : B / 2 ^ k % 2 = 1) : B % 2 ^ (k + 1) ≠ 0 := by
  rw [Nat.mod_pow_succ, hb]
  have : 0 < 2 ^ k := Nat.pow_pos (by omega)
  omega

/-! a change of at most 32 bits in a row -/
theorem crcF_burst {l m : List UInt8} {f P : Nat} (h : l.length = m.length) (hn : num m = num l ^^^ (2 ^ f * P)) (hP : P < 4294967296) (hf : f ≤ 8 * l.length) : crcF 4294967295 l = crcF 4294967295 m ↔ P = 0 := by
  rw [crcF_num, crcF_num, hn, ← h, ← Nat.xor_assoc, stepK_xor _ (4294967295 ^^^ num l)]
  have hk : stepK (8 * l.length) (2 ^ f * P) = stepK (8 * l.length - f) P := by
    conv => lhs; arg 1; rw [show 8 * l.length = f + (8 * l.length - f) by omega]
    rw [stepK_add, stepK_pow]
  rw [hk]
  constructor
  · intro he
    have hz : stepK (8 * l.length - f) P = 0 := by
      have h2 := congrArg (fun x => stepK (8 * l.length) (4294967295 ^^^ num l) ^^^ x) he
      simp only [Nat.xor_self, ← Nat.xor_assoc, Nat.zero_xor] at h2
      exact h2.symm
    rcases Nat.eq_zero_or_pos P with h0 | h0
    · exact h0
    · exact absurd hz (stepK_ne _ hP (by omega))
  · rintro rfl
    rw [stepK_zero, Nat.xor_zero]
theorem crc_burst {l m : List UInt8} {f P : Nat} (h : l.length = m.length) (hn : num m = num l ^^^ (2 ^ f * P)) (hP : P < 4294967296) (hf : f ≤ 8 * l.length) : crc m = crc l ↔ P = 0 := by
  rw [← crcF_burst h hn hP hf]
  have h1 := crcF_ones l
  have h2 := crcF_ones m
  unfold crc
  omega
end Go.Proofs.YthfoglgmilbolaaDoor.Wire
