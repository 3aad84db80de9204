/- Which writes survive a crash, as the law DiskCrashBytes reckons it. -/
import Derived.Test.YtndfakbklfidhaaDiskOrd
import Derived.Test.YtndfakbklfidhaaDiskHelp
namespace Go.Proofs.Ytndfakbklfidhaa.Dsk
open Go Go.Lib
/-- the last kept index below k -/
def lst (kp : Nat → Bool) : Nat → Int
  | 0 => -1
  | k + 1 => if kp k then (k : Int) else lst kp k
/-- the kept writes below k -/
def kps (kp : Nat → Bool) (P : Nat → Nat × ByteArray) : Nat → List (Nat × ByteArray)
  | 0 => []
  | k + 1 => if kp k then kps kp P k ++ [P k] else kps kp P k
/-- the same, write number L torn -/
def kts (kp : Nat → Bool) (P : Nat → Nat × ByteArray) (L t : Int) : Nat → List (Nat × ByteArray)
  | 0 => []
  | k + 1 => if kp k then kts kp P L t k ++ [if (k : Int) = L then ((P k).1, torn t (P k).2) else P k] else kts kp P L t k
/-- the kept indices below k, from above -/
def dsc (kp : Nat → Bool) : Nat → List Int
  | 0 => []
  | k + 1 => if kp k then (k : Int) :: dsc kp k else dsc kp k
theorem lst_lt (kp : Nat → Bool) : ∀ k : Nat, lst kp k < (k : Int)
  | 0 => by simp [lst]
  | k + 1 => by
    have := lst_lt kp k
    rw [lst]
    split <;> omega
theorem lst_ge (kp : Nat → Bool) : ∀ k : Nat, -1 ≤ lst kp k
  | 0 => by simp [lst]
  | k + 1 => by
    have := lst_ge kp k
    rw [lst]
    split <;> omega
theorem lst_le (kp : Nat → Bool) {a : Nat} : ∀ {b : Nat}, a ≤ b → lst kp a ≤ lst kp b
  | 0, h => by
    obtain rfl : a = 0 := by omega
    exact Int.le_refl _
  | b + 1, h => by
    by_cases e : a = b + 1
    · rw [e]; exact Int.le_refl _
    · have h1 := lst_le kp (a := a) (b := b) (by omega)
      have h2 := lst_lt kp b
      rw [lst]
      split <;> omega
theorem tear_snoc (t : Int) (p : Nat × ByteArray) : ∀ l : List (Nat × ByteArray), tear t (l ++ [p]) = l ++ [(p.1, torn t p.2)]
  | [] => rfl
  | [_] => rfl
  | a :: b :: r => by
    show a :: tear t (b :: r ++ [p]) = _
    rw [tear_snoc t p (b :: r)]; rfl
theorem kts_eq {kp : Nat → Bool} {P : Nat → Nat × ByteArray} {L t : Int} {m : Nat} (hL : lst kp m = L) : ∀ k : Nat, k ≤ m → kts kp P L t k = if lst kp k = L then tear t (kps kp P k) else kps kp P k
  | 0, _ => by rw [kts, kps]; split <;> rfl
  | k + 1, h => by
    have ih := kts_eq (P := P) (t := t) hL k (by omega)
    have h1 := lst_lt kp k
    have h2 := lst_le kp h
    rw [kts, kps, ih]
    cases hk : kp k with
    | false => simp only [lst, hk]; rfl
    | true =>
      have h3 : lst kp (k + 1) = (k : Int) := by rw [lst, if_pos hk]
      rw [if_pos rfl, if_pos rfl, h3, if_neg (show ¬ lst kp k = L by omega)]
      by_cases e : (k : Int) = L
      · rw [if_pos e, if_pos e, tear_snoc]
      · rw [if_neg e, if_neg e]
theorem dsc_mem {kp : Nat → Bool} {x : Int} : ∀ k : Nat, x ∈ dsc kp k ↔ ∃ i : Nat, i < k ∧ kp i = true ∧ x = (i : Int)
  | 0 => by simp [dsc]
  | k + 1 => by
    have ih := dsc_mem (kp := kp) (x := x) k
    cases hk : kp k with
    | false =>
      rw [dsc, hk, if_neg Bool.false_ne_true, ih]
      constructor
      · rintro ⟨i, h1, h2, h3⟩; exact ⟨i, by omega, h2, h3⟩
      · rintro ⟨i, h1, h2, h3⟩
        have : i ≠ k := fun e => by rw [e, hk] at h2; cases h2
        exact ⟨i, by omega, h2, h3⟩
    | true =>
      rw [dsc, hk, if_pos rfl, List.mem_cons, ih]
      constructor
      · rintro (h | ⟨i, h1, h2, h3⟩)
        · exact ⟨k, by omega, hk, h⟩
        · exact ⟨i, by omega, h2, h3⟩
      · rintro ⟨i, h1, h2, h3⟩
        by_cases e : i = k
        · rw [e] at h3; exact .inl h3
        · exact .inr ⟨i, by omega, h2, h3⟩
theorem keptI_dsc (kp : Nat → Bool) (m : Nat) : keptI m (dsc kp m) = (List.range m).filter kp := by
  rw [keptI]
  refine List.filter_congr fun i hi => ?_
  have hi := List.mem_range.1 hi
  rw [Bool.eq_iff_iff, List.contains_iff_mem, dsc_mem]
  constructor
  · rintro ⟨j, h1, h2, h3⟩
    obtain rfl : i = j := by omega
    exact h2
  · intro h; exact ⟨i, hi, h, rfl⟩
theorem kps_eq (kp : Nat → Bool) (P : Nat → Nat × ByteArray) : ∀ m : Nat, kps kp P m = ((List.range m).filter kp).map P
  | 0 => rfl
  | m + 1 => by
    rw [kps, kps_eq kp P m, List.range_succ, List.filter_append, List.map_append]
    cases hk : kp m <;> simp [hk]
theorem dsc_length (kp : Nat → Bool) : ∀ k : Nat, (dsc kp k).length ≤ k
  | 0 => by simp [dsc]
  | k + 1 => by
    have := dsc_length kp k
    rw [dsc]
    split
    · rw [List.length_cons]; omega
    · omega
theorem surv_dsc {D : Dk} {m : Nat} {kp : Nat → Bool} {P : Nat → Nat × ByteArray} {t : Int} (h : D.pend = (List.range m).map P) : surv D (dsc kp m) t = kts kp P (lst kp m) t m := by
  rw [kts_eq rfl m (Nat.le_refl _), if_pos rfl, kps_eq, surv, h, List.length_map, List.length_range, keptI_dsc]
  congr 1
  refine List.map_congr_left fun i hi => ?_
  have hi := List.mem_range.1 (List.mem_filter.1 hi).1
  simp [List.getD, hi]
theorem torn_cut {t : Int} (h : 0 ≤ t) (s : ByteArray) : torn t s = cutS s t.toNat := by rw [torn, if_pos h, cutS, Nat.min_comm]
theorem torn_not {t : Int} (h : t < 0) (s : ByteArray) : torn t s = s := by rw [torn, if_neg (by omega)]
/-- a content under the kept writes, one more -/
theorem kts_in {kp : Nat → Bool} {P : Nat → Nat × ByteArray} {L t : Int} {k : Nat} (hk : kp k = true) (b : List UInt8) :
    overs b (kts kp P L t (k + 1)) = over (overs b (kts kp P L t k)) (if (k : Int) = L then ((P k).1, torn t (P k).2) else P k) := by rw [kts, if_pos hk, overs_snoc]
theorem kts_out {kp : Nat → Bool} {P : Nat → Nat × ByteArray} {L t : Int} {k : Nat} (hk : kp k = false) : kts kp P L t (k + 1) = kts kp P L t k := by rw [kts, hk, if_neg Bool.false_ne_true]
theorem dsc_in {kp : Nat → Bool} {k : Nat} (hk : kp k = true) : dsc kp (k + 1) = (k : Int) :: dsc kp k := by rw [dsc, if_pos hk]
theorem dsc_out {kp : Nat → Bool} {k : Nat} (hk : kp k = false) : dsc kp (k + 1) = dsc kp k := by rw [dsc, hk, if_neg Bool.false_ne_true]
theorem lst_in {kp : Nat → Bool} {k : Nat} (hk : kp k = true) : lst kp (k + 1) = (k : Int) := by rw [lst, if_pos hk]
theorem lst_out {kp : Nat → Bool} {k : Nat} (hk : kp k = false) : lst kp (k + 1) = lst kp k := by rw [lst, hk, if_neg Bool.false_ne_true]
end Go.Proofs.Ytndfakbklfidhaa.Dsk
