/- The walk of the law DigestExtensionAccepted. -/
import Derived.Test.YtoipckflokdakaaDoorLw02Bin
namespace Go.Proofs.YtoipckflokdakaaDoor
open Go.RowKit Sha Mk
attribute [local go_sem] Oper.semAt_some
theorem ext_short (l : List ByteArray) (k : Nat) (h : k ≤ l.length) : (extS l k).length ≤ 2 * binN l.length := by
  rw [extS]
  split
  · exact Nat.zero_le _
  · have h1 := part_short leafS nodeS (sumS ⟨#[]⟩) (binN l.length) l k true (by omega) (by omega) (binN_pow _)
    have h2 := binN_half l.length (by omega)
    exact Nat.le_trans h1 (by omega)
theorem part_sizes : ∀ (n : Nat) (l : List ByteArray) (m : Nat) (b : Bool), 1 ≤ m → 1 ≤ l.length → l.length ≤ n → ∀ s ∈ Mk.part leafS nodeS (sumS ⟨#[]⟩) l m b, s.size = 32
  | 0, _, _, _, _, hl, hn => by omega
  | n + 1, l, m, b, hm, hl, hn => by
    by_cases h : m < l.length
    · have h1 := lft_lt (n := l.length) (by omega)
      have h2 := lft_pos (n := l.length)
      rw [part_split _ _ _ _ _ _ hm h]
      intro s hs
      split at hs
      · rcases List.mem_append.1 hs with hs | hs
        · exact part_sizes n _ _ _ hm (by rw [List.length_take]; omega) (by rw [List.length_take]; omega) s hs
        · rw [List.mem_singleton.1 hs]; exact rootS_size _
      · rcases List.mem_append.1 hs with hs | hs
        · exact part_sizes n _ _ _ (by omega) (by rw [List.length_drop]; omega) (by rw [List.length_drop]; omega) s hs
        · rw [List.mem_singleton.1 hs]; exact rootS_size _
    · rw [part_all _ _ _ _ _ _ hl (by omega)]
      intro s hs
      cases b
      · rw [if_neg (by decide)] at hs; rw [List.mem_singleton.1 hs]; exact rootS_size _
      · rw [if_pos rfl] at hs; cases hs
theorem ext_all (l : List ByteArray) (k : Nat) (h : k ≤ l.length) : allB (extS l k) = true := by
  rw [allB, Bool.not_eq_true', List.any_eq_false]
  intro s hs
  rw [extS] at hs
  split at hs
  · cases hs
  · have := part_sizes l.length l k true (by omega) (by omega) (Nat.le_refl _) s hs
    simp [oddB, this]
/-- the extension of every beginning is accepted -/
theorem ext_accepted (l : List ByteArray) (k : Nat) (h : k ≤ l.length) : verifyXB (rootS (l.take k)) k (rootS l) l.length (extS l k) = true := by
  have ha := ext_all l k h
  have hr := (str_beq_iff (rootS l) (rootS l)).2 rfl
  have hk := (str_beq_iff (rootS (l.take k)) (rootS (l.take k))).2 rfl
  rw [verifyXB, ha, rootS_size, rootS_size]
  by_cases h0 : k = 0
  · subst h0
    rw [show extS l 0 = [] from rfl]
    simp only [List.take_zero] at hk ⊢
    rw [show rootS [] = sumS ⟨#[]⟩ from rfl] at hk ⊢
    simp
  · by_cases hl : k = l.length
    · have he : extS l k = [] := by
        rw [extS, if_neg h0]
        show Mk.part _ _ _ _ _ _ = _
        rw [part_all _ _ _ _ _ _ (by omega) (by omega)]; rfl
      rw [he, hl, List.take_length]
      simp only [Int.natCast_eq_zero]
      rw [if_neg (by omega)]
      simp
    · have hb := both_part leafS nodeS (sumS ⟨#[]⟩) l.length l k true (rootS (l.take k)) (Nat.le_refl _) (by omega) h (fun _ => rfl)
      have he : extS l k = Mk.part leafS nodeS (sumS ⟨#[]⟩) l k true := by rw [extS, if_neg h0]; rfl
      rw [if_neg (by omega), if_neg (by omega), he, Int.toNat_natCast, Int.toNat_natCast]
      rw [show bothS (rootS (l.take k)) k l.length (Mk.part leafS nodeS (sumS ⟨#[]⟩) l k true).reverse true = some (rootS (l.take k), rootS l) from hb]
      simp only [hk, hr]
      simp
      omega
end Go.Proofs.YtoipckflokdakaaDoor
