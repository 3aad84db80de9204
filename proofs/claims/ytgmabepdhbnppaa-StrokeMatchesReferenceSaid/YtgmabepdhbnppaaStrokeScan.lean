/- Plain Lean: the numbers of Thin, one index after another. -/
import Derived.Test.YtgmabepdhbnppaaStrokeLaws
namespace Go.Proofs.Ytgmabepdhbnppaa.Str
section
variable (ok : Nat → Nat → Bool)
/-- what need and next hold for i when the indices from k on have been looked at -/
def scS (L i k : Nat) : Nat × Nat := if k ≤ L then scanR ok i (tabs ok L (L - k)) k else (200, 0)
theorem scS_top {L i k : Nat} (h : L < k) : scS ok L i k = (200, 0) := if_neg (by omega)
theorem scS_step {L i k : Nat} (hk : k ≤ L) : scS ok L i k = if needF ok L k + 1 ≤ (scS ok L i (k + 1)).1 ∧ ok i k = true then (needF ok L k + 1, k) else scS ok L i (k + 1) := by
  by_cases h : k = L
  · subst h
    rw [need_last]
    have e : scS ok k i (k + 1) = (200, 0) := scS_top ok (by omega)
    rw [e]
    show (if k ≤ k then _ else _) = _
    rw [if_pos (Nat.le_refl _), Nat.sub_self]
    rfl
  · have e : scS ok L i (k + 1) = scanR ok i (tabs ok L (L - (k + 1))) (k + 1) := if_pos (by omega)
    rw [e]
    show (if k ≤ L then _ else _) = _
    rw [if_pos hk]
    obtain ⟨m, hm⟩ : ∃ m, L - k = m + 1 := ⟨L - k - 1, by omega⟩
    have hn : needF ok L k = (scanR ok (L - (m + 1)) (tabs ok L m) (L - m)).1 := by rw [needF, hm, ent_succ]
    rw [hn, show L - (k + 1) = m by omega, hm]
    rfl
theorem scS_need {L i : Nat} (hi : i < L) : needF ok L i = (scS ok L i (i + 1)).1 ∧ nextF ok L i = (scS ok L i (i + 1)).2 := by
  have e : ent ok L (L - i) = scS ok L i (i + 1) := by
    obtain ⟨m, hm⟩ : ∃ m, L - i = m + 1 := ⟨L - i - 1, by omega⟩
    rw [hm, ent_succ, scS, if_pos (by omega), show L - (m + 1) = i by omega, show L - (i + 1) = m by omega, show L - m = i + 1 by omega]
  exact ⟨by rw [needF, e], by rw [nextF, e]⟩
theorem scan_le (i : Nat) : ∀ (r : List (Nat × Nat)) (k : Nat), (scanR ok i r k).1 ≤ 200
  | [], _ => Nat.le_refl _
  | e :: r, k => by
    rw [scanR]
    split
    · rename_i h
      have := scan_le i r (k + 1)
      exact Nat.le_trans h.1 this
    · exact scan_le i r (k + 1)
theorem scS_le (L i k : Nat) : (scS ok L i k).1 ≤ 200 := by
  unfold scS
  split
  · exact scan_le ok i _ _
  · exact Nat.le_refl _
theorem need_le {L i : Nat} (hi : i ≤ L) : needF ok L i ≤ 200 := by
  by_cases h : i = L
  · rw [h, need_last]; omega
  · rw [(scS_need ok (by omega)).1]; exact scS_le ok _ _ _
theorem scan_hi (i : Nat) {B : Nat} : ∀ (r : List (Nat × Nat)) (k : Nat), k + r.length ≤ B → (scanR ok i r k).2 ≤ B
  | [], _, _ => Nat.zero_le _
  | e :: r, k, h => by
    rw [scanR]
    simp only [List.length_cons] at h
    split
    · show k ≤ B; omega
    · exact scan_hi i r (k + 1) (by omega)
end
/-- a function turned at one place -/
def upd (f : Nat → Int) (i : Nat) (v : Int) (j : Nat) : Int := if j = i then v else f j
theorem upd_same (f : Nat → Int) (i : Nat) (v : Int) : upd f i v i = v := if_pos rfl
theorem upd_other {f : Nat → Int} {i j : Nat} (v : Int) (h : j ≠ i) : upd f i v j = f j := if_neg h
end Go.Proofs.Ytgmabepdhbnppaa.Str
