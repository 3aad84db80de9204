/- The checksum, in plain Lean: a register of 32 bits, one bit a step. -/
namespace Go.Proofs.YthfoglgmilbolaaDoor.Wire

def stepN (r : Nat) : Nat := if r % 2 = 1 then (r / 2) ^^^ 2197175160 else r / 2
def stepK : Nat → Nat → Nat
  | 0, r => r
  | k + 1, r => stepK k (stepN r)
theorem stepK_succ (k r : Nat) : stepK (k + 1) r = stepN (stepK k r) := by
  induction k generalizing r with
  | zero => rfl
  | succ k ih => rw [stepK, ih]; rfl
theorem stepK_add (j k r : Nat) : stepK (j + k) r = stepK k (stepK j r) := by
  induction j generalizing r with
  | zero => simp [stepK]
  | succ j ih => rw [Nat.succ_add, stepK, ih]; rfl
theorem xor4 (a b c : Nat) : (a ^^^ c) ^^^ (b ^^^ c) = a ^^^ b := by
  rw [Nat.xor_comm b c, ← Nat.xor_assoc, Nat.xor_assoc a c c, Nat.xor_self, Nat.xor_zero]
theorem stepN_xor (a b : Nat) : stepN (a ^^^ b) = stepN a ^^^ stepN b := by
  have h := @Nat.xor_mod_two_eq_one a b
  unfold stepN
  rw [Nat.xor_div_two]
  by_cases ha : a % 2 = 1 <;> by_cases hb : b % 2 = 1
  · rw [if_neg (by rw [h]; simp [ha, hb]), if_pos ha, if_pos hb, xor4]
  · rw [if_pos (by rw [h]; simp [ha, hb]), if_pos ha, if_neg hb, Nat.xor_assoc, Nat.xor_assoc, Nat.xor_comm (b / 2)]
  · rw [if_pos (by rw [h]; simp [ha, hb]), if_neg ha, if_pos hb, Nat.xor_assoc]
  · rw [if_neg (by rw [h]; simp [ha, hb]), if_neg ha, if_neg hb]
theorem stepK_xor (k a b : Nat) : stepK k (a ^^^ b) = stepK k a ^^^ stepK k b := by
  induction k generalizing a b with
  | zero => rfl
  | succ k ih => rw [stepK, stepN_xor, ih]; rfl
theorem stepN_two (a : Nat) : stepN (2 * a) = a := by unfold stepN; rw [if_neg (by omega)]; omega
theorem stepK_pow (k a : Nat) : stepK k (2 ^ k * a) = a := by
  induction k generalizing a with
  | zero => simp [stepK]
  | succ k ih => rw [stepK, Nat.pow_succ, Nat.mul_comm (2 ^ k), Nat.mul_assoc, stepN_two, ih]
theorem stepK_zero (k : Nat) : stepK k 0 = 0 := by have := stepK_pow k 0; simpa using this
theorem xor_split (n r : Nat) : r = (2 ^ n * (r / 2 ^ n)) ^^^ (r % 2 ^ n) := by
  have hp : 0 < 2 ^ n := Nat.pow_pos (by omega)
  have h1 : ((2 ^ n * (r / 2 ^ n)) ^^^ (r % 2 ^ n)) / 2 ^ n = r / 2 ^ n := by
    rw [Nat.xor_div_two_pow, Nat.mul_div_cancel_left _ hp, Nat.div_eq_of_lt (Nat.mod_lt _ hp), Nat.xor_zero]
  have h2 : ((2 ^ n * (r / 2 ^ n)) ^^^ (r % 2 ^ n)) % 2 ^ n = r % 2 ^ n := by
    rw [Nat.xor_mod_two_pow, Nat.mul_mod_right, Nat.zero_xor, Nat.mod_mod]
  have h3 := Nat.div_add_mod ((2 ^ n * (r / 2 ^ n)) ^^^ (r % 2 ^ n)) (2 ^ n)
  rw [h1, h2, Nat.div_add_mod] at h3
  exact h3
def nibTab : List Nat := [0, 274646895, 549293790, 820201905, 1098587580, 1361435347, 1640403810, 1905808397, 2197175160, 2460548119, 2722870694, 2987750089, 3280807620, 3553878443, 3811616794, 4084100981]
def nibN (k : Nat) : Nat := nibTab.getD k 0
theorem nib_step : ∀ k : Nat, k < 16 → stepK 4 k = nibN k := by
  intro k hk
  have : k = 0 ∨ k = 1 ∨ k = 2 ∨ k = 3 ∨ k = 4 ∨ k = 5 ∨ k = 6 ∨ k = 7 ∨ k = 8 ∨ k = 9 ∨ k = 10 ∨ k = 11 ∨ k = 12 ∨ k = 13 ∨ k = 14 ∨ k = 15 := by omega
  rcases this with rfl | rfl | rfl | rfl | rfl | rfl | rfl | rfl | rfl | rfl | rfl | rfl | rfl | rfl | rfl | rfl <;> decide
theorem nib_four (r : Nat) : (r / 16) ^^^ nibN (r % 16) = stepK 4 r := by
  have h := xor_split 4 r
  have h2 : stepK 4 r = stepK 4 ((2 ^ 4 * (r / 2 ^ 4)) ^^^ (r % 2 ^ 4)) := congrArg (stepK 4) h
  rw [h2, stepK_xor, stepK_pow, show r % 2 ^ 4 = r % 16 from rfl, nib_step _ (Nat.mod_lt _ (by omega))]
theorem stepN_lt {r : Nat} (h : r < 4294967296) : stepN r < 4294967296 := by
  unfold stepN
  split
  · exact Nat.xor_lt_two_pow (n := 32) (by omega) (by omega)
  · omega
theorem stepK_lt (k : Nat) {r : Nat} (h : r < 4294967296) : stepK k r < 4294967296 := by
  induction k generalizing r with
  | zero => exact h
  | succ k ih => exact ih (stepN_lt h)
theorem stepN_ne {r : Nat} (h : r < 4294967296) (h0 : r ≠ 0) : stepN r ≠ 0 := by
  unfold stepN
  split
  · intro he
    have h1 := congrArg (fun x => x / 2 ^ 31) he
    simp only [Nat.xor_div_two_pow] at h1
    rw [Nat.div_eq_of_lt (show r / 2 < 2 ^ 31 by omega)] at h1
    simp at h1
  · omega
theorem stepK_ne (k : Nat) {r : Nat} (h : r < 4294967296) (h0 : r ≠ 0) : stepK k r ≠ 0 := by
  induction k generalizing r with
  | zero => exact h0
  | succ k ih => exact ih (stepN_lt h) (stepN_ne h h0)

def crcF (r : Nat) (l : List UInt8) : Nat := l.foldl (fun r b => stepK 8 (r ^^^ b.toNat)) r
theorem crcF_cons (r : Nat) (b : UInt8) (l : List UInt8) : crcF r (b :: l) = crcF (stepK 8 (r ^^^ b.toNat)) l := rfl
theorem crcF_snoc (r : Nat) (l : List UInt8) (b : UInt8) : crcF r (l ++ [b]) = stepK 8 (crcF r l ^^^ b.toNat) := by simp [crcF]
theorem byte_lt (b : UInt8) : b.toNat < 4294967296 := Nat.lt_trans b.toNat_lt (by omega)
theorem crcF_lt (l : List UInt8) {r : Nat} (h : r < 4294967296) : crcF r l < 4294967296 := by
  induction l generalizing r with
  | nil => exact h
  | cons b t ih => rw [crcF_cons]; exact ih (stepK_lt 8 (Nat.xor_lt_two_pow (n := 32) h (byte_lt b)))
/-- the checksum -/
def crc (l : List UInt8) : Nat := 4294967295 - crcF 4294967295 l
/-- a list of bytes as one number, the first byte the least significant one -/
def num : List UInt8 → Nat
  | [] => 0
  | b :: t => b.toNat + 256 * num t
theorem num_cons (b : UInt8) (t : List UInt8) : num (b :: t) = b.toNat ^^^ (2 ^ 8 * num t) := by
  have hb := b.toNat_lt
  have h := xor_split 8 (b.toNat + 256 * num t)
  have h1 : (b.toNat + 256 * num t) / 2 ^ 8 = num t := by omega
  have h2 : (b.toNat + 256 * num t) % 2 ^ 8 = b.toNat := by omega
  rw [h1, h2] at h
  rw [num, h, Nat.xor_comm]
theorem crcF_num (l : List UInt8) (r : Nat) : crcF r l = stepK (8 * l.length) (r ^^^ num l) := by
  induction l generalizing r with
  | nil => simp [crcF, num, stepK]
  | cons b t ih =>
    have e : stepK 8 ((r ^^^ b.toNat) ^^^ (2 ^ 8 * num t)) = stepK 8 (r ^^^ b.toNat) ^^^ num t := by rw [stepK_xor, stepK_pow]
    rw [crcF_cons, ih, num_cons, ← Nat.xor_assoc, List.length_cons, show 8 * (t.length + 1) = 8 + 8 * t.length by omega, stepK_add, e]
theorem crcF_xor (l m x : List UInt8) (r s : Nat) (hl : l.length = m.length) (hx : x.length = m.length) (h : num x = num l ^^^ num m) : crcF (r ^^^ s) x = crcF r l ^^^ crcF s m := by
  rw [crcF_num, crcF_num, crcF_num, hl, hx, h, ← stepK_xor]
  congr 1
  rw [Nat.xor_assoc, Nat.xor_assoc, ← Nat.xor_assoc s, Nat.xor_comm s, Nat.xor_assoc]
end Go.Proofs.YthfoglgmilbolaaDoor.Wire
