/- Plain laws of the wire chapter: encodings are read back, are unique, and are no part of one another. -/
import Derived.Test.YthfoglgmilbolaaDoorWireAny
namespace Go.Proofs.YthfoglgmilbolaaDoor
open Wire
theorem enc_code (z : Nat) : ∃ q c, enc z = q ++ [c] ∧ Heavy q ∧ c.toNat < 128 := by
  obtain ⟨q, c, h1, h2, h3, _, _⟩ := enc_shape z z (Nat.le_refl _)
  exact ⟨q, c, h1, h2, h3⟩
theorem dec_enc {n : Int} (h0 : -4611686018427387903 ≤ n) (h1 : n ≤ 4611686018427387903) (r : List UInt8) : dec (enc (zz n) ++ r) = some (n, (enc (zz n)).length) := by
  rw [dec_iff]
  exact ⟨by simp, h0, h1, by simp⟩
theorem iR_enc (p r : List UInt8) {n : Int} (h0 : -4611686018427387903 ≤ n) (h1 : n ≤ 4611686018427387903) : iR (p ++ enc (zz n) ++ r) (p.length : Int) = (n, (p.length : Int) + ((enc (zz n)).length : Int), 0) := by
  rw [iR, if_neg (by simp; omega), Int.toNat_natCast, List.append_assoc, List.drop_left, dec_enc h0 h1]
theorem sR_enc (p r t : List UInt8) (h : t.length ≤ 65536) : sR (p ++ putsI t ++ r) (p.length : Int) = (t, (p.length : Int) + ((putsI t).length : Int), 0) := by
  have hp : putsI t = enc (zz (t.length : Int)) ++ t := by rw [putsI, if_neg (by omega)]
  rw [hp, sR, if_neg (by simp; omega), Int.toNat_natCast, List.append_assoc, List.drop_left, List.append_assoc, dec_enc (by omega) (by omega)]
  simp only []
  rw [if_neg (by simp; omega)]
  have e : List.drop (p.length + (enc (zz (t.length : Int))).length) (p ++ (enc (zz (t.length : Int)) ++ (t ++ r))) = t ++ r := by
    rw [← List.drop_drop, List.drop_left, List.drop_left]
  rw [e, Int.toNat_natCast, List.take_left]
  simp
  omega
theorem putsI_ok {t : List UInt8} (h : t.length ≤ 65536) : putsE t = 0 := by rw [putsE, if_neg (by omega)]
theorem putsI_len {t : List UInt8} (h : t.length ≤ 65536) : (putsI t).length ≤ 9 + t.length := by
  rw [putsI, if_neg (by omega), List.length_append]
  have := enc_len9 (zz_lt (n := (t.length : Int)) (by omega) (by omega))
  omega
theorem putI_num {n : Int} (h0 : -576460752303423488 < n) (h1 : n < 576460752303423488) : putI n = enc (zz n) ∧ putE n = 0 :=
  ⟨by rw [putI, if_neg (by omega)], by rw [putE, if_neg (by omega)]⟩

/-! what is accepted is what is returned -/
theorem iR_in {l : List UInt8} {K : Int} (h0 : 0 ≤ K) (h1 : K ≤ (l.length : Int)) :
    (∃ n k : Int, iR l K = (n, K + k, 0) ∧ 0 ≤ k ∧ K + k ≤ (l.length : Int) ∧ putE n = 0 ∧ -4611686018427387903 ≤ n ∧ n ≤ 4611686018427387903 ∧ putI n = (l.drop K.toNat).take k.toNat) ∨ iR l K = (0, 0, 10) := by
  rw [iR, if_neg (by omega)]
  cases hd : dec (l.drop K.toNat) with
  | none => exact .inr rfl
  | some p =>
    obtain ⟨n, k⟩ := p
    obtain ⟨h2, h3, h4, h5⟩ := (dec_iff _ _ _).1 hd
    rw [List.length_drop] at h2
    exact .inl ⟨n, k, rfl, by omega, by omega, by rw [putE, if_neg (by omega)], h3, h4, by rw [putI, if_neg (by omega), ← h5, Int.toNat_natCast]⟩
theorem sR_in {l : List UInt8} {K : Int} (h0 : 0 ≤ K) (h1 : K ≤ (l.length : Int)) :
    (∃ (t : List UInt8) (k : Int), sR l K = (t, K + k, 0) ∧ 0 ≤ k ∧ K + k ≤ (l.length : Int) ∧ putsE t = 0 ∧ t.length ≤ 65536 ∧ putsI t = (l.drop K.toNat).take k.toNat) ∨ sR l K = ([], 0, 10) := by
  rw [sR, if_neg (by omega)]
  cases hd : dec (l.drop K.toNat) with
  | none => exact .inr rfl
  | some p =>
    obtain ⟨n, k⟩ := p
    obtain ⟨h2, h3, h4, h5⟩ := (dec_iff _ _ _).1 hd
    rw [List.length_drop] at h2
    simp only []
    by_cases hb : n < 0 ∨ 65536 < n ∨ (l.length : Int) - (K + (k : Int)) < n
    · rw [if_pos hb]; exact .inr rfl
    · rw [if_neg hb]
      have hl : ((l.drop (K.toNat + k)).take n.toNat).length = n.toNat := by rw [List.length_take, List.length_drop]; omega
      refine .inl ⟨_, (k : Int) + n, by rw [Int.add_assoc], by omega, by omega, putsI_ok (by omega), by omega, ?_⟩
      rw [putsI, if_neg (by omega), hl, show ((n.toNat : Nat) : Int) = n by omega, ← h5, ← List.drop_drop, show ((k : Int) + n).toNat = k + n.toNat by omega]
      exact (List.take_add).symm

theorem iR_nat {l : List UInt8} {a : Nat} (h : a ≤ l.length) :
    (∃ (n : Int) (j : Nat), iR l (a : Int) = (n, (a : Int) + (j : Int), 0) ∧ a + j ≤ l.length ∧ putE n = 0 ∧ -4611686018427387903 ≤ n ∧ n ≤ 4611686018427387903 ∧ putI n = (l.drop a).take j) ∨ iR l (a : Int) = (0, 0, 10) := by
  rcases iR_in (l := l) (K := (a : Int)) (by omega) (by omega) with ⟨n, k, h1, h2, h3, h4, h5, h6, h7⟩ | h1
  · obtain ⟨j, rfl⟩ := Int.eq_ofNat_of_zero_le h2
    exact .inl ⟨n, j, h1, by omega, h4, h5, h6, by simpa using h7⟩
  · exact .inr h1
theorem sR_nat {l : List UInt8} {a : Nat} (h : a ≤ l.length) :
    (∃ (t : List UInt8) (j : Nat), sR l (a : Int) = (t, (a : Int) + (j : Int), 0) ∧ a + j ≤ l.length ∧ putsE t = 0 ∧ t.length ≤ 65536 ∧ putsI t = (l.drop a).take j) ∨ sR l (a : Int) = ([], 0, 10) := by
  rcases sR_in (l := l) (K := (a : Int)) (by omega) (by omega) with ⟨n, k, h1, h2, h3, h4, h5, h6⟩ | h1
  · obtain ⟨j, rfl⟩ := Int.eq_ofNat_of_zero_le h2
    exact .inl ⟨n, j, h1, by omega, h4, h5, by simpa using h6⟩
  · exact .inr h1

/-! no proper prefix of an encoding is accepted -/
theorem dec_short {z j : Nat} (h : j < (enc z).length) : dec ((enc z).take j) = none := by
  obtain ⟨q, c, he, hq, hc⟩ := enc_code z
  cases hd : dec ((enc z).take j) with
  | none => rfl
  | some p =>
    obtain ⟨n, k⟩ := p
    obtain ⟨h2, _, _, h5⟩ := (dec_iff _ _ _).1 hd
    obtain ⟨q', c', he', hq', hc'⟩ := enc_code (zz n)
    exfalso
    rw [List.length_take] at h2
    rw [List.take_take, Nat.min_eq_left (by omega)] at h5
    have e : (q' ++ [c']) ++ (enc z).drop k = (q ++ [c]) ++ [] := by rw [← he', ← h5, List.take_append_drop, List.append_nil, he]
    obtain ⟨_, _, e3⟩ := code_unique q' q c' c _ [] hq' hq hc' hc e
    have := congrArg List.length e3
    rw [List.length_drop] at this
    simp at this
    omega
theorem iR_short {z j : Nat} (h : j < (enc z).length) : iR ((enc z).take j) 0 = (0, 0, 10) := by
  rw [iR, if_neg (by simp), show (0 : Int).toNat = 0 from rfl, List.drop_zero, dec_short h]
theorem sR_short {t : List UInt8} {j : Nat} (ht : t.length ≤ 65536) (h : j < (putsI t).length) : sR ((putsI t).take j) 0 = ([], 0, 10) := by
  have hp : putsI t = enc (zz (t.length : Int)) ++ t := by rw [putsI, if_neg (by omega)]
  rw [sR, if_neg (by simp), show (0 : Int).toNat = 0 from rfl, List.drop_zero, hp]
  by_cases hj : j < (enc (zz (t.length : Int))).length
  · rw [List.take_append_of_le_length (by omega), dec_short hj]
  · have e : (enc (zz (t.length : Int)) ++ t).take j = enc (zz (t.length : Int)) ++ t.take (j - (enc (zz (t.length : Int))).length) := by
      rw [List.take_append, List.take_of_length_le (by omega)]
    rw [hp, List.length_append] at h
    rw [e, dec_enc (by omega) (by omega)]
    simp only []
    rw [if_pos (by rw [List.length_append, List.length_take]; omega)]
theorem enc_prefix {m n : Int} (h : (enc (zz m)).length ≤ (enc (zz n)).length) (hp : (enc (zz n)).take (enc (zz m)).length = enc (zz m)) : m = n := by
  obtain ⟨q, c, he, hq, hc⟩ := enc_code (zz m)
  obtain ⟨q', c', he', hq', hc'⟩ := enc_code (zz n)
  have e : (q ++ [c]) ++ (enc (zz n)).drop (enc (zz m)).length = (q' ++ [c']) ++ [] := by
    rw [← he, List.append_nil, ← he']
    conv => lhs; arg 1; rw [← hp]
    exact List.take_append_drop _ _
  obtain ⟨e1, e2, _⟩ := code_unique q q' c c' _ [] hq hq' hc hc' e
  have : enc (zz m) = enc (zz n) := by rw [he, he', e1, e2]
  obtain ⟨_, _, _, _, _, _, v1⟩ := enc_shape _ (zz m) (Nat.le_refl _)
  obtain ⟨_, _, _, _, _, _, v2⟩ := enc_shape _ (zz n) (Nat.le_refl _)
  rw [this, v2] at v1
  rw [← unzz_zz m, ← unzz_zz n, v1]
end Go.Proofs.YthfoglgmilbolaaDoor
