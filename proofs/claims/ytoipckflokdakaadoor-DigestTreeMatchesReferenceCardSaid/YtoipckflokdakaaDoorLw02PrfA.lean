/- The plain law of DigestProofAccepted. -/
import Derived.Test.YtoipckflokdakaaDoorLw02Bin
namespace Go.Proofs.YtoipckflokdakaaDoor
open Go.RowKit Sha Mk
theorem proof_sizes : ∀ (n : Nat) (l : List ByteArray) (i : Nat), l.length ≤ n → ∀ s ∈ proofS l i, s.size = 32
  | 0, l, i, hn => by
    intro s hs
    rw [proofS, proof_one _ _ _ _ _ (by omega)] at hs
    cases hs
  | n + 1, l, i, hn => by
    intro s hs
    by_cases h : 2 ≤ l.length
    · have h1 := lft_lt h
      have h2 := lft_pos (n := l.length)
      rw [proofS, proof_split _ _ _ _ _ h] at hs
      split at hs
      · rcases List.mem_append.1 hs with hs | hs
        · exact proof_sizes n _ _ (by rw [List.length_take]; omega) s hs
        · rw [List.mem_singleton.1 hs]; exact rootS_size _
      · rcases List.mem_append.1 hs with hs | hs
        · exact proof_sizes n _ _ (by rw [List.length_drop]; omega) s hs
        · rw [List.mem_singleton.1 hs]; exact rootS_size _
    · rw [proofS, proof_one _ _ _ _ _ (by omega)] at hs
      cases hs
theorem proof_all (l : List ByteArray) (k : Nat) : allB (proofS l k) = true := by
  rw [allB, Bool.not_eq_true', List.any_eq_false]
  intro s hs
  have := proof_sizes l.length l k (Nat.le_refl _) s hs
  simp [oddB, this]
/-- the proof of every entry is accepted -/
theorem proof_accepted (l : List ByteArray) (k : Nat) (h : k < l.length) : verifyB (rootS l) l.length k (l.getD k ⟨#[]⟩) (proofS l k) = true := by
  have hv := value_proof leafS nodeS (sumS ⟨#[]⟩) l.length l k ⟨#[]⟩ (Nat.le_refl _) h
  have hr := (str_beq_iff (rootS l) (rootS l)).2 rfl
  rw [verifyB, proof_all, Int.toNat_natCast, Int.toNat_natCast, show valueS l.length k (l.getD k ⟨#[]⟩) (proofS l k).reverse = some (rootS l) from hv, ← str_beq, hr]
  simp
  omega
/-- a proof of another length is not -/
theorem proof_refused (l : List ByteArray) (k : Nat) (h : k < l.length) (Q : List ByteArray) (hQ : Q.length ≠ (proofS l k).length) : verifyB (rootS l) l.length k (l.getD k ⟨#[]⟩) Q = false := by
  have hv := value_proof leafS nodeS (sumS ⟨#[]⟩) l.length l k ⟨#[]⟩ (Nat.le_refl _) h
  have hn : valueS l.length k (l.getD k ⟨#[]⟩) Q.reverse = none := by
    cases hx : valueS l.length k (l.getD k ⟨#[]⟩) Q.reverse with
    | none => rfl
    | some v =>
      have := value_length leafS nodeS _ _ _ _ _ _ _ _ hv hx
      rw [List.length_reverse, List.length_reverse] at this
      exact absurd this.symm hQ
  rw [verifyB, Int.toNat_natCast, Int.toNat_natCast, hn]
  exact Bool.and_false _
theorem verify_out (rt : ByteArray) (n i : Int) (s : ByteArray) (p : List ByteArray) (h : i < 0 ∨ n ≤ i) : verifyB rt n i s p = false := by
  rw [verifyB]
  rcases h with h | h
  · rw [show decide (0 ≤ i) = false by simpa using h]; rfl
  · rw [show decide (i < n) = false by simpa using h]; simp
theorem proofS_short (l : List ByteArray) (k : Nat) : (proofS l k).length ≤ binN l.length := proof_short leafS nodeS (sumS ⟨#[]⟩) (binN l.length) l k (binN_pow _)
end Go.Proofs.YtoipckflokdakaaDoor
