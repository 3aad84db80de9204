/- Plain functions and laws for the wire chapter: what PutInt, Int, PutString, String and Sum compute, in Lean, with no program in sight. -/
namespace Go.Proofs.YthfoglgmilbolaaDoor.Wire

/-- pick of the laws -/
def pickI (c n : Int) : Int := (if c < 0 then -(c + 1) else c) % n
def numTab : List Int := [64, 128, 8192, 16384, 1073741824, 36028797018963968, 576460752303423488, 2]
def numT (k : Nat) : Int := numTab.getD k 2
def numI (c : Int) : Int :=
  if 8 ≤ pickI c 16 then -(pickI (pickI c 4611686018427387904 / 8) (numT (pickI c 8).toNat))
  else pickI (pickI c 4611686018427387904 / 8) (numT (pickI c 8).toNat)
theorem pickI_lo (c n : Int) (hn : 1 ≤ n) : 0 ≤ pickI c n := Int.emod_nonneg _ (by omega)
theorem pickI_hi (c n : Int) (hn : 1 ≤ n) : pickI c n < n := Int.emod_lt_of_pos _ (by omega)
theorem numTab_bd : ∀ k : Nat, 1 ≤ numT k ∧ numT k ≤ 576460752303423488
  | 0 => by decide
  | 1 => by decide
  | 2 => by decide
  | 3 => by decide
  | 4 => by decide
  | 5 => by decide
  | 6 => by decide
  | 7 => by decide
  | k + 8 => by simp [numT, numTab, List.getD]
theorem numI_bd (c : Int) : -576460752303423488 < numI c ∧ numI c < 576460752303423488 := by
  have h1 := numTab_bd (pickI c 8).toNat
  have h2 := pickI_lo (pickI c 4611686018427387904 / 8) (numT (pickI c 8).toNat) (by omega)
  have h3 := pickI_hi (pickI c 4611686018427387904 / 8) (numT (pickI c 8).toNat) (by omega)
  unfold numI
  split <;> omega

/-- the number that is encoded for n -/
def zz (n : Int) : Nat := if n < 0 then (-n).toNat * 2 - 1 else n.toNat * 2
/-- the number that is encoded as z -/
def unzz (z : Nat) : Int := if z % 2 = 1 then -((z / 2 : Nat) : Int) - 1 else ((z / 2 : Nat) : Int)
theorem unzz_zz (n : Int) : unzz (zz n) = n := by
  unfold unzz zz
  by_cases h : n < 0
  · rw [if_pos h, if_pos (by omega)]; omega
  · rw [if_neg h, if_neg (by omega)]; omega
theorem zz_unzz (z : Nat) : zz (unzz z) = z := by
  unfold unzz zz
  by_cases h : z % 2 = 1
  · rw [if_pos h, if_pos (by omega)]; omega
  · rw [if_neg h, if_neg (by omega)]; omega
theorem zz_lt {n : Int} (h0 : -4611686018427387903 ≤ n) (h1 : n ≤ 4611686018427387903) : zz n < 9223372036854775807 := by
  unfold zz; split <;> omega

/-- the groups of z, the least significant one first -/
def enc (z : Nat) : List UInt8 := if z < 128 then [UInt8.ofNat z] else UInt8.ofNat (z % 128 + 128) :: enc (z / 128)
termination_by z
decreasing_by omega
theorem enc_small {z : Nat} (h : z < 128) : enc z = [UInt8.ofNat z] := by rw [enc, if_pos h]
theorem enc_big {z : Nat} (h : 128 ≤ z) : enc z = UInt8.ofNat (z % 128 + 128) :: enc (z / 128) := by rw [enc, if_neg (by omega)]
theorem enc_ne (z : Nat) : enc z ≠ [] := by
  by_cases h : z < 128
  · simp [enc_small h]
  · simp [enc_big (show 128 ≤ z by omega)]
theorem enc_len : ∀ (k z : Nat), z < 128 ^ (k + 1) → (enc z).length ≤ k + 1
  | 0, z, h => by rw [enc_small (by simpa using h)]; simp
  | k + 1, z, h => by
    by_cases hz : z < 128
    · rw [enc_small hz]; simp
    · rw [enc_big (by omega)]
      have : z / 128 < 128 ^ (k + 1) := by rw [Nat.pow_succ] at h; omega
      have := enc_len k _ this
      simp; omega
theorem enc_len9 {z : Nat} (h : z < 9223372036854775807) : (enc z).length ≤ 9 := enc_len 8 z (by omega)

/-- what PutInt returns -/
def putI (n : Int) : List UInt8 := if n < -4611686018427387903 ∨ 4611686018427387903 < n then [] else enc (zz n)
def putE (n : Int) : Int := if n < -4611686018427387903 ∨ 4611686018427387903 < n then 10 else 0


/-! the shape of an encoding: all bytes but the last one are at least 128 -/
def Heavy (q : List UInt8) : Prop := ∀ b ∈ q, 128 ≤ b.toNat
/-- the number that bytes stand for -/
def val : List UInt8 → Nat
  | [] => 0
  | b :: t => b.toNat % 128 + 128 * val t
theorem val_append (p : List UInt8) (b : UInt8) : val (p ++ [b]) = val p + b.toNat % 128 * 128 ^ p.length := by
  induction p with
  | nil => simp [val]
  | cons a t ih =>
    simp only [List.cons_append, val, ih, List.length_cons, Nat.pow_succ, Nat.mul_add]
    have : 128 * (b.toNat % 128 * 128 ^ t.length) = b.toNat % 128 * (128 ^ t.length * 128) := by
      rw [Nat.mul_comm 128, Nat.mul_assoc]
    omega
theorem val_lt (p : List UInt8) : val p < 128 ^ p.length := by
  induction p with
  | nil => simp [val]
  | cons a t ih => simp only [val, List.length_cons, Nat.pow_succ]; omega
theorem enc_shape : ∀ (n z : Nat), z ≤ n → ∃ q c, enc z = q ++ [c] ∧ Heavy q ∧ c.toNat < 128 ∧ (c.toNat ≠ 0 ∨ q = []) ∧ val (enc z) = z
  | 0, z, h => ⟨[], UInt8.ofNat z, by rw [enc_small (by omega)]; rfl, fun b hb => by simp at hb, by rw [UInt8.toNat_ofNat']; omega, .inr rfl, by rw [enc_small (by omega)]; simp [val]; omega⟩
  | n + 1, z, h => by
    by_cases hz : z < 128
    · exact ⟨[], UInt8.ofNat z, by rw [enc_small hz]; rfl, fun b hb => by simp at hb, by rw [UInt8.toNat_ofNat']; omega, .inr rfl, by rw [enc_small hz]; simp [val]; omega⟩
    · obtain ⟨q, c, he, hq, hc, hl, hv⟩ := enc_shape n (z / 128) (by omega)
      refine ⟨UInt8.ofNat (z % 128 + 128) :: q, c, by rw [enc_big (by omega), he]; rfl, ?_, hc, ?_, ?_⟩
      · intro b hb
        rcases List.mem_cons.1 hb with rfl | hb
        · rw [UInt8.toNat_ofNat']; omega
        · exact hq b hb
      · refine .inl ?_
        rcases hl with hl | hl
        · exact hl
        · subst hl
          intro h0
          rw [he] at hv
          simp [val] at hv
          omega
      · rw [enc_big (by omega)]
        simp only [val, hv, UInt8.toNat_ofNat']
        omega
theorem heavy_nil : Heavy [] := fun b hb => by simp at hb
theorem heavy_snoc {p : List UInt8} {b : UInt8} (h : Heavy p) (hb : 128 ≤ b.toNat) : Heavy (p ++ [b]) := by
  intro x hx
  rcases List.mem_append.1 hx with hx | hx
  · exact h x hx
  · simp at hx; subst hx; exact hb
/-- two encodings at the beginning of one list are the same -/
theorem code_unique : ∀ (q q' : List UInt8) (c c' : UInt8) (r r' : List UInt8), Heavy q → Heavy q' → c.toNat < 128 → c'.toNat < 128 → (q ++ [c]) ++ r = (q' ++ [c']) ++ r' → q = q' ∧ c = c' ∧ r = r'
  | [], [], c, c', r, r', _, _, _, _, h => by simp at h; exact ⟨rfl, h.1, h.2⟩
  | [], b' :: q', c, c', r, r', _, hq', hc, _, h => by
    simp at h
    have := hq' b' (by simp)
    rw [← h.1] at this
    omega
  | b :: q, [], c, c', r, r', hq, _, _, hc', h => by
    simp at h
    have := hq b (by simp)
    rw [h.1] at this
    omega
  | b :: q, b' :: q', c, c', r, r', hq, hq', hc, hc', h => by
    simp only [List.cons_append, List.cons.injEq] at h
    obtain ⟨e1, e2, e3⟩ := code_unique q q' c c' r r' (fun x hx => hq x (by simp [hx])) (fun x hx => hq' x (by simp [hx])) hc hc' h.2
    exact ⟨by rw [h.1, e1], e2, e3⟩
/-- an encoding is no part of bytes that are all at least 128 -/
theorem code_heavy {q p : List UInt8} {c : UInt8} {r : List UInt8} (hp : Heavy p) (hc : c.toNat < 128) (h : (q ++ [c]) ++ r = p) : False := by
  have := hp c (by rw [← h]; simp)
  omega
theorem enc_val {p : List UInt8} {b : UInt8} (hp : Heavy p) (hb : b.toNat < 128) (h0 : b.toNat ≠ 0 ∨ p = []) : enc (val (p ++ [b])) = p ++ [b] := by
  induction p with
  | nil =>
    have e : val ([] ++ [b]) = b.toNat := by simp [val]; omega
    rw [e, enc_small hb]; simp
  | cons a t ih =>
    have hne : b.toNat ≠ 0 := by rcases h0 with h0 | h0 <;> simp_all
    have ih := ih (fun x hx => hp x (by simp [hx])) (.inl hne)
    have ha : 128 ≤ a.toNat := hp a (by simp)
    have ha2 : a.toNat < 256 := a.toNat_lt
    have hpos : 0 < val (t ++ [b]) := by
      rw [val_append]
      have h1 : 0 < b.toNat % 128 := by omega
      have h2 : 0 < 128 ^ t.length := Nat.pow_pos (by omega)
      have := Nat.mul_pos h1 h2
      omega
    simp only [List.cons_append, val]
    rw [enc_big (by omega), show (a.toNat % 128 + 128 * val (t ++ [b])) / 128 = val (t ++ [b]) by omega, ih,
      show (a.toNat % 128 + 128 * val (t ++ [b])) % 128 + 128 = a.toNat by omega, UInt8.ofNat_toNat]

/-! decoding -/
def decGo : List UInt8 → Nat → Nat → Option (Int × Nat)
  | [], _, _ => none
  | b :: t, i, z => if 9 ≤ i then none
    else if 128 ≤ b.toNat then decGo t (i + 1) (z + b.toNat % 128 * 128 ^ i)
    else if (b.toNat = 0 ∧ 0 < i) ∨ unzz (z + b.toNat % 128 * 128 ^ i) < -4611686018427387903 then none
    else some (unzz (z + b.toNat % 128 * 128 ^ i), i + 1)
def dec (l : List UInt8) : Option (Int × Nat) := decGo l 0 0
theorem unzz_le {z : Nat} (h : z < 9223372036854775808) : unzz z ≤ 4611686018427387903 := by unfold unzz; split <;> omega
theorem unzz_ge {z : Nat} (h : z < 9223372036854775808) : -4611686018427387904 ≤ unzz z := by unfold unzz; split <;> omega
theorem pow_le9 {i : Nat} (h : i ≤ 9) : 128 ^ i ≤ 9223372036854775808 := by
  have := Nat.pow_le_pow_right (show 0 < 128 by omega) h
  simpa using this
theorem decGo_iff (n : Int) (k : Nat) : ∀ (r p : List UInt8), Heavy p → p.length ≤ 9 →
    (decGo r p.length (val p) = some (n, k) ↔ k ≤ (p ++ r).length ∧ -4611686018427387903 ≤ n ∧ n ≤ 4611686018427387903 ∧ (p ++ r).take k = enc (zz n))
  | [], p, hp, h9 => by
    obtain ⟨q, c, he, hq, hc, _, _⟩ := enc_shape _ (zz n) (Nat.le_refl _)
    simp only [decGo, List.append_nil]
    constructor
    · intro h; cases h
    · rintro ⟨_, _, _, h⟩
      exact (code_heavy (q := q) (c := c) (r := p.drop k) hp hc (by rw [← he, ← h, List.take_append_drop])).elim
  | b :: t, p, hp, h9 => by
    obtain ⟨q, c, he, hq, hc, hl, hv⟩ := enc_shape _ (zz n) (Nat.le_refl _)
    rw [decGo]
    by_cases hi : 9 ≤ p.length
    · rw [if_pos hi]
      constructor
      · intro h; cases h
      · rintro ⟨hk, h1, h2, h⟩
        exfalso
        have hlen := enc_len9 (zz_lt h1 h2)
        rw [← h, List.length_take] at hlen
        have hk9 : k ≤ p.length := by omega
        rw [List.take_append_of_le_length hk9, he] at h
        exact code_heavy (q := q) (c := c) (r := p.drop k) hp hc (by rw [← h, List.take_append_drop])
    · rw [if_neg hi]
      by_cases hb : 128 ≤ b.toNat
      · rw [if_pos hb]
        have := decGo_iff n k t (p ++ [b]) (heavy_snoc hp hb) (by simp; omega)
        rw [List.length_append, val_append] at this
        simpa using this
      · rw [if_neg hb]
        have hval : val p + b.toNat % 128 * 128 ^ p.length = val (p ++ [b]) := (val_append p b).symm
        rw [hval]
        have hlt : val (p ++ [b]) < 9223372036854775808 := by
          have h1 := val_lt (p ++ [b])
          have h2 := pow_le9 (show (p ++ [b]).length ≤ 9 by simp; omega)
          omega
        have key : k ≤ (p ++ b :: t).length → (p ++ b :: t).take k = enc (zz n) → q = p ∧ c = b ∧ k = p.length + 1 := by
          intro hk h
          have e : (q ++ [c]) ++ (p ++ b :: t).drop k = (p ++ [b]) ++ t := by
            rw [← he, ← h, List.take_append_drop]; simp
          obtain ⟨e1, e2, e3⟩ := code_unique q p c b _ t hq hp hc (by omega) e
          refine ⟨e1, e2, ?_⟩
          have := congrArg List.length e
          have h3 := congrArg List.length e3
          rw [List.length_drop] at h3
          simp at h3 hk
          omega
        by_cases hbad : (b.toNat = 0 ∧ 0 < p.length) ∨ unzz (val (p ++ [b])) < -4611686018427387903
        · rw [if_pos hbad]
          constructor
          · intro h; cases h
          · rintro ⟨hk, h1, h2, h⟩
            obtain ⟨e1, e2, e3⟩ := key hk h
            subst e1 e2
            rcases hbad with ⟨hb0, hp0⟩ | hbad
            · rcases hl with hl | hl
              · exact absurd hb0 hl
              · subst hl; simp at hp0
            · rw [← he, hv, unzz_zz] at hbad; omega
        · rw [if_neg hbad]
          have hb0 : b.toNat ≠ 0 ∨ p = [] := by
            rcases Nat.eq_zero_or_pos p.length with h | h
            · exact .inr (List.length_eq_zero_iff.1 h)
            · exact .inl (fun e => hbad (.inl ⟨e, h⟩))
          have hev := enc_val hp (by omega) hb0
          constructor
          · intro h
            simp only [Option.some.injEq, Prod.mk.injEq] at h
            obtain ⟨rfl, rfl⟩ := h
            refine ⟨by simp, ?_, unzz_le hlt, ?_⟩
            · rcases Int.lt_or_le (unzz (val (p ++ [b]))) (-4611686018427387903) with h | h
              · exact absurd (.inr h) hbad
              · exact h
            · rw [zz_unzz, hev, show p ++ b :: t = (p ++ [b]) ++ t by simp, List.take_append_of_le_length (by simp), List.take_of_length_le (by simp)]
          · rintro ⟨hk, h1, h2, h⟩
            obtain ⟨e1, e2, e3⟩ := key hk h
            subst e1 e2
            rw [← he, hv, unzz_zz, e3]
theorem dec_iff (l : List UInt8) (n : Int) (k : Nat) : dec l = some (n, k) ↔ k ≤ l.length ∧ -4611686018427387903 ≤ n ∧ n ≤ 4611686018427387903 ∧ l.take k = enc (zz n) := by
  have := decGo_iff n k l [] heavy_nil (by simp)
  simpa [val, dec] using this
end Go.Proofs.YthfoglgmilbolaaDoor.Wire
