/- What a sequence of encodings is, and that it is read back: plain Lean. -/
import Derived.Test.YthfoglgmilbolaaDoorLaw2
namespace Go.Proofs.YthfoglgmilbolaaDoor
open Go.RowKit Wire
/-- what is taken of a text -/
def cutS (s : ByteArray) : List UInt8 := s.data.toList.take 100
/-- the first k numbers and texts, encoded -/
def seqTo (Z : Nat → Int) (S : Nat → ByteArray) : Nat → List UInt8
  | 0 => []
  | k + 1 => seqTo Z S k ++ enc (zz (numI (Z k))) ++ putsI (cutS (S k))
theorem cutS_len (s : ByteArray) : (cutS s).length ≤ 100 := by unfold cutS; rw [List.length_take]; omega
theorem enc_num_len (z : Int) : (enc (zz (numI z))).length ≤ 9 := by
  have h := numI_bd z
  exact enc_len9 (zz_lt (n := numI z) (by omega) (by omega))
theorem seqTo_len (Z : Nat → Int) (S : Nat → ByteArray) : ∀ k, (seqTo Z S k).length ≤ 118 * k
  | 0 => by simp [seqTo]
  | k + 1 => by
    have h1 := seqTo_len Z S k
    have h2 := enc_num_len (Z k)
    have h3 := putsI_len (t := cutS (S k)) (by have := cutS_len (S k); omega)
    have h4 := cutS_len (S k)
    rw [seqTo, List.length_append, List.length_append]
    omega
theorem seqTo_split (Z : Nat → Int) (S : Nat → ByteArray) (k : Nat) : ∀ d, ∃ r, seqTo Z S (k + d) = seqTo Z S k ++ r
  | 0 => ⟨[], by simp⟩
  | d + 1 => by
    obtain ⟨r, h⟩ := seqTo_split Z S k d
    exact ⟨r ++ enc (zz (numI (Z (k + d)))) ++ putsI (cutS (S (k + d))), by rw [← Nat.add_assoc, seqTo, h]; simp⟩
theorem seqTo_int (Z : Nat → Int) (S : Nat → ByteArray) {k n : Nat} (h : k < n) :
    iR (seqTo Z S n) ((seqTo Z S k).length : Int) = (numI (Z k), ((seqTo Z S k).length : Int) + ((enc (zz (numI (Z k)))).length : Int), 0) := by
  obtain ⟨r, hr⟩ := seqTo_split Z S (k + 1) (n - (k + 1))
  rw [show k + 1 + (n - (k + 1)) = n by omega, seqTo] at hr
  have hb := numI_bd (Z k)
  have := iR_enc (seqTo Z S k) (putsI (cutS (S k)) ++ r) (n := numI (Z k)) (by omega) (by omega)
  rw [hr, List.append_assoc (seqTo Z S k ++ enc (zz (numI (Z k)))), this]
theorem seqTo_str (Z : Nat → Int) (S : Nat → ByteArray) {k n : Nat} (h : k < n) :
    sR (seqTo Z S n) (((seqTo Z S k).length : Int) + ((enc (zz (numI (Z k)))).length : Int)) = (cutS (S k), ((seqTo Z S (k + 1)).length : Int), 0) := by
  obtain ⟨r, hr⟩ := seqTo_split Z S (k + 1) (n - (k + 1))
  rw [show k + 1 + (n - (k + 1)) = n by omega, seqTo] at hr
  have := sR_enc (seqTo Z S k ++ enc (zz (numI (Z k)))) r (cutS (S k)) (by have := cutS_len (S k); omega)
  rw [hr, show ((seqTo Z S k).length : Int) + ((enc (zz (numI (Z k)))).length : Int) = ((seqTo Z S k ++ enc (zz (numI (Z k)))).length : Int) by rw [List.length_append]; omega, this, seqTo]
  refine Prod.ext rfl (Prod.ext ?_ rfl)
  simp only [List.length_append]
  omega
theorem seqTo_end (l : List UInt8) : iR l (l.length : Int) = (0, 0, 10) := by
  rw [iR, if_neg (by omega), Int.toNat_natCast, List.drop_length]
  rfl
theorem seq_data (l : List UInt8) (a b : List UInt8) : ByteArray.mk l.toArray ++ ByteArray.mk a.toArray ++ ByteArray.mk b.toArray = ByteArray.mk (l ++ a ++ b).toArray := by
  apply ByteArray.ext
  simp [ByteArray.data_append]
theorem cutS_extract (s : ByteArray) (M : Nat) (h : (M : Int) = if 100 < (s.size : Int) then 100 else (s.size : Int)) : s.extract 0 M = ByteArray.mk (cutS s).toArray := by
  apply ByteArray.ext
  rw [ByteArray.data_extract]
  apply Array.toList_inj.1
  rw [Array.toList_extract, cutS]
  simp only [List.extract, List.drop_zero, Nat.sub_zero, List.toList_toArray]
  have hl := len_size s
  by_cases hb : 100 < (s.size : Int)
  · rw [if_pos hb] at h
    rw [show M = 100 by omega]
  · rw [if_neg hb] at h
    rw [List.take_of_length_le (by omega), List.take_of_length_le (by omega)]
end Go.Proofs.YthfoglgmilbolaaDoor
