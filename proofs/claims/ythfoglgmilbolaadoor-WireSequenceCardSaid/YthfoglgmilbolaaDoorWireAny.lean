/- Int and String for every offset, as one function each. -/
import Derived.Test.YthfoglgmilbolaaDoorWireSane
namespace Go.Proofs.YthfoglgmilbolaaDoor
open Go.RowKit Wire
/-- what Int and String return, for every offset -/
def iR (l : List UInt8) (K : Int) : Int × Int × Int :=
  if K < 0 ∨ (l.length : Int) < K then (0, 0, 2) else match dec (l.drop K.toNat) with
    | none => (0, 0, 10)
    | some (n, k) => (n, K + (k : Int), 0)
def sR (l : List UInt8) (K : Int) : List UInt8 × Int × Int :=
  if K < 0 ∨ (l.length : Int) < K then ([], 0, 2) else match dec (l.drop K.toNat) with
    | none => ([], 0, 10)
    | some (n, k) => if n < 0 ∨ 65536 < n ∨ (l.length : Int) - (K + (k : Int)) < n then ([], 0, 10) else ((l.drop (K.toNat + k)).take n.toNat, K + (k : Int) + n, 0)
def iV (x : Int × Int × Int) : Value := .tuple #[.int .i64 x.1, .int .i64 x.2.1, .int .i64 x.2.2]
def sV (x : List UInt8 × Int × Int) : Value := .tuple #[bs x.1, .int .i64 x.2.1, .int .i64 x.2.2]
theorem intTup_eq (s : ByteArray) (a : Nat) (h : a ≤ s.size) : intTup a (dec (s.data.toList.drop a)) = iV (iR s.data.toList (a : Int)) := by
  have hs : s.data.toList.length = s.size := by simp
  rw [iR, if_neg (by omega), Int.toNat_natCast]
  cases dec (s.data.toList.drop a) with
  | none => rfl
  | some p => rfl
theorem strTup_eq (s : ByteArray) (a : Nat) (h : a ≤ s.size) : strTup s.data.toList a = sV (sR s.data.toList (a : Int)) := by
  have hs : s.data.toList.length = s.size := by simp
  rw [sR, strTup, if_neg (by omega), Int.toNat_natCast]
  cases dec (s.data.toList.drop a) with
  | none => rfl
  | some p => simp only []; split <;> rfl
theorem iR_out (s : ByteArray) (K : Int) (h : K < 0 ∨ (s.size : Int) < K) : iR s.data.toList K = (0, 0, 2) := by
  have hs : s.data.toList.length = s.size := by simp
  rw [iR, if_pos (by omega)]
theorem sR_out (s : ByteArray) (K : Int) (h : K < 0 ∨ (s.size : Int) < K) : sR s.data.toList K = ([], 0, 2) := by
  have hs : s.data.toList.length = s.size := by simp
  rw [sR, if_pos (by omega)]
theorem int_any (s : ByteArray) (K : Int) (w : World) (hs : (s.size : Int) ≤ 4611686018427387904) :
    Calls Tryd.prog 15 #[.string s, .int .i64 K] w fun e w' => e = .returned (iV (iR s.data.toList K)) ∧ w = w' := by
  by_cases h : K < 0 ∨ (s.size : Int) < K
  · rw [iR_out s K h]; exact int_out s K w hs h
  · obtain ⟨a, rfl⟩ := Int.eq_ofNat_of_zero_le (show 0 ≤ K by omega)
    rw [← intTup_eq s a (by omega)]; exact int_in s a w hs (by omega)
theorem rint_any (s : ByteArray) (K : Int) (w : World) (hs : (s.size : Int) ≤ 4611686018427387904) :
    Calls Tryd.prog 16 #[.string s, .int .i64 K] w fun e w' => e = .returned (iV (iR s.data.toList K)) ∧ Below w.heap.size w w' := by
  by_cases h : K < 0 ∨ (s.size : Int) < K
  · rw [iR_out s K h]; exact rint_out s K w hs h
  · obtain ⟨a, rfl⟩ := Int.eq_ofNat_of_zero_le (show 0 ≤ K by omega)
    rw [← intTup_eq s a (by omega)]; exact rint_in s a w hs (by omega)
theorem str_any (s : ByteArray) (K : Int) (w : World) (hs : (s.size : Int) ≤ 4611686018427387904) :
    Calls Tryd.prog 17 #[.string s, .int .i64 K] w fun e w' => e = .returned (sV (sR s.data.toList K)) ∧ w = w' := by
  by_cases h : K < 0 ∨ (s.size : Int) < K
  · rw [sR_out s K h]; exact str_out s K w hs h
  · obtain ⟨a, rfl⟩ := Int.eq_ofNat_of_zero_le (show 0 ≤ K by omega)
    rw [← strTup_eq s a (by omega)]; exact str_in s a w hs (by omega)
theorem rstr_any (s : ByteArray) (K : Int) (w : World) (hs : (s.size : Int) ≤ 4611686018427387904) :
    Calls Tryd.prog 18 #[.string s, .int .i64 K] w fun e w' => e = .returned (sV (sR s.data.toList K)) ∧ Below w.heap.size w w' := by
  by_cases h : K < 0 ∨ (s.size : Int) < K
  · rw [sR_out s K h]; exact rstr_out s K w hs h
  · obtain ⟨a, rfl⟩ := Int.eq_ofNat_of_zero_le (show 0 ≤ K by omega)
    rw [← strTup_eq s a (by omega)]; exact rstr_in s a w hs (by omega)
end Go.Proofs.YthfoglgmilbolaaDoor
