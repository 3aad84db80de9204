/- Trees of digests, in plain Lean: proofs and extensions are accepted, are short, and have one length. -/
import Derived.Test.YtoipckflokdakaaDoorMerk
namespace Go.Proofs.YtoipckflokdakaaDoor.Mk
section
variable {S : Type} (lf : S → S) (nd : S → S → S) (e : S)
theorem lft_pow {n a : Nat} (h : 2 ≤ n) (hn : n ≤ 2 ^ (a + 1)) : lft n ≤ 2 ^ a := by
  obtain ⟨b, h1, h2, _⟩ := lft_spec h
  rw [h1]
  exact Nat.pow_le_pow_right (by decide) (by
    rcases Nat.lt_or_ge a b with h3 | h3
    · have := Nat.pow_le_pow_right (by decide : 0 < 2) (show a + 1 ≤ b from h3)
      omega
    · exact h3)
theorem value_two (n i : Nat) (s x : S) (P : List S) (h : 2 ≤ n) : valueF lf nd n i s (x :: P) = if i < lft n then (valueF lf nd (lft n) i s P).map fun v => nd v x else (valueF lf nd (n - lft n) (i - lft n) s P).map fun v => nd x v := by
  rw [valueF, if_neg (by omega)]
/-- the value of a proof is the root -/
theorem value_proof : ∀ (n : Nat) (l : List S) (i : Nat) (d : S), l.length ≤ n → i < l.length → valueF lf nd l.length i (l.getD i d) (proof lf nd e l i).reverse = some (root lf nd e l)
  | 0, _, _, _, hn, hi => by omega
  | n + 1, l, i, d, hn, hi => by
    by_cases h : 2 ≤ l.length
    · have h1 := lft_lt h
      have h2 := lft_pos (n := l.length)
      rw [proof_split _ _ _ _ _ h, root_split _ _ _ _ h]
      by_cases hk : i < lft l.length
      · rw [if_pos hk, List.reverse_append, List.reverse_singleton, List.singleton_append, value_two _ _ _ _ _ _ _ h, if_pos hk]
        have ih := value_proof n (l.take (lft l.length)) i d (by rw [List.length_take]; omega) (by rw [List.length_take]; omega)
        rw [List.length_take, Nat.min_eq_left (by omega)] at ih
        rw [show (l.take (lft l.length)).getD i d = l.getD i d by rw [List.getD, List.getD, List.getElem?_take_of_lt hk]] at ih
        rw [ih]; rfl
      · rw [if_neg hk, List.reverse_append, List.reverse_singleton, List.singleton_append, value_two _ _ _ _ _ _ _ h, if_neg hk]
        have ih := value_proof n (l.drop (lft l.length)) (i - lft l.length) d (by rw [List.length_drop]; omega) (by rw [List.length_drop]; omega)
        rw [List.length_drop] at ih
        rw [show (l.drop (lft l.length)).getD (i - lft l.length) d = l.getD i d by rw [List.getD, List.getD, List.getElem?_drop, show lft l.length + (i - lft l.length) = i by omega]] at ih
        rw [ih]; rfl
    · match l, hi, h with
      | [x], hi, _ =>
        have hi : i < 1 := hi
        obtain rfl : i = 0 := by omega
        rw [proof_one _ _ _ _ _ (by simp)]
        rfl
      | a :: b :: t, _, h => exact absurd (by simp) h
/-- two proofs that have a value for the same place are of the same length -/
theorem value_length : ∀ (P Q : List S) (n i : Nat) (s t u v : S), valueF lf nd n i s P = some u → valueF lf nd n i t Q = some v → P.length = Q.length
  | [], [], _, _, _, _, _, _, _, _ => rfl
  | [], y :: Q, n, i, s, t, u, v, h1, h2 => by
    by_cases h : n ≤ 1
    · rw [valueF, if_pos h] at h2; cases h2
    · rw [valueF, if_neg h] at h1; cases h1
  | x :: P, [], n, i, s, t, u, v, h1, h2 => by
    by_cases h : n ≤ 1
    · rw [valueF, if_pos h] at h1; cases h1
    · rw [valueF, if_neg h] at h2; cases h2
  | x :: P, y :: Q, n, i, s, t, u, v, h1, h2 => by
    by_cases h : n ≤ 1
    · rw [valueF, if_pos h] at h1; cases h1
    · rw [value_two _ _ _ _ _ _ _ (by omega)] at h1 h2
      by_cases hk : i < lft n
      · rw [if_pos hk] at h1 h2
        obtain ⟨a, ha, _⟩ := Option.map_eq_some_iff.1 h1
        obtain ⟨b, hb, _⟩ := Option.map_eq_some_iff.1 h2
        rw [List.length_cons, List.length_cons, value_length P Q _ _ _ _ _ _ ha hb]
      · rw [if_neg hk] at h1 h2
        obtain ⟨a, ha, _⟩ := Option.map_eq_some_iff.1 h1
        obtain ⟨b, hb, _⟩ := Option.map_eq_some_iff.1 h2
        rw [List.length_cons, List.length_cons, value_length P Q _ _ _ _ _ _ ha hb]
theorem proof_short : ∀ (a : Nat) (l : List S) (i : Nat), l.length ≤ 2 ^ a → (proof lf nd e l i).length ≤ a
  | 0, l, i, h => by rw [proof_one _ _ _ _ _ (by simpa using h)]; exact Nat.le_refl _
  | a + 1, l, i, h => by
    by_cases h2 : 2 ≤ l.length
    · have h3 := lft_pow h2 h
      have h4 := lft_half h2
      rw [proof_split _ _ _ _ _ h2]
      split
      · have := proof_short a (l.take (lft l.length)) i (by rw [List.length_take]; omega)
        rw [List.length_append, List.length_singleton]; omega
      · have := proof_short a (l.drop (lft l.length)) (i - lft l.length) (by rw [List.length_drop]; omega)
        rw [List.length_append, List.length_singleton]; omega
    · rw [proof_one _ _ _ _ _ (by omega)]; exact Nat.zero_le _
theorem part_short : ∀ (a : Nat) (l : List S) (m : Nat) (b : Bool), 1 ≤ m → 1 ≤ l.length → l.length ≤ 2 ^ a → (part lf nd e l m b).length ≤ a + 1
  | 0, l, m, b, hm, hl, h => by
    rw [part_all _ _ _ _ _ _ hl (by simp at h; omega)]
    cases b
    · exact Nat.le_refl _
    · exact Nat.zero_le _
  | a + 1, l, m, b, hm, hl, h => by
    by_cases h1 : m < l.length
    · have h2 : 2 ≤ l.length := by omega
      have h3 := lft_pow h2 h
      have h4 := lft_half h2
      have h5 := lft_lt h2
      have h6 := lft_pos (n := l.length)
      rw [part_split _ _ _ _ _ _ hm h1]
      split
      · have := part_short a (l.take (lft l.length)) m b hm (by rw [List.length_take]; omega) (by rw [List.length_take]; omega)
        rw [List.length_append, List.length_singleton]; omega
      · have := part_short a (l.drop (lft l.length)) (m - lft l.length) false (by omega) (by rw [List.length_drop]; omega) (by rw [List.length_drop]; omega)
        rw [List.length_append, List.length_singleton]; omega
    · rw [part_all _ _ _ _ _ _ hl (by omega)]
      cases b
      · simp
      · exact Nat.zero_le _
theorem both_two (old : S) (m n : Nat) (x : S) (P : List S) (b : Bool) (h : m < n) : bothF nd old m n (x :: P) b = if m ≤ lft n then (bothF nd old m (lft n) P b).map fun v => (v.1, nd v.2 x) else (bothF nd old (m - lft n) (n - lft n) P false).map fun v => (nd x v.1, nd x v.2) := by
  rw [bothF, if_neg (by omega)]
/-- the two values of an extension are the two roots -/
theorem both_part : ∀ (n : Nat) (l : List S) (m : Nat) (b : Bool) (old : S), l.length ≤ n → 1 ≤ m → m ≤ l.length → (b = true → old = root lf nd e (l.take m)) → bothF nd old m l.length (part lf nd e l m b).reverse b = some (root lf nd e (l.take m), root lf nd e l)
  | 0, _, _, _, _, hn, hm, hl, _ => by omega
  | n + 1, l, m, b, old, hn, hm, hl, ho => by
    by_cases h : m < l.length
    · have h2 : 2 ≤ l.length := by omega
      have h1 := lft_lt h2
      have h3 := lft_pos (n := l.length)
      have h4 := lft_half h2
      rw [part_split _ _ _ _ _ _ hm h, root_split _ _ _ l h2]
      by_cases hk : m ≤ lft l.length
      · rw [if_pos hk, List.reverse_append, List.reverse_singleton, List.singleton_append, both_two _ _ _ _ _ _ _ h, if_pos hk]
        have ht : (l.take (lft l.length)).take m = l.take m := by rw [List.take_take, Nat.min_eq_left hk]
        have ih := both_part n (l.take (lft l.length)) m b old (by rw [List.length_take]; omega) hm (by rw [List.length_take]; omega) (by rw [ht]; exact ho)
        rw [List.length_take, Nat.min_eq_left (by omega), ht] at ih
        rw [ih]; rfl
      · rw [if_neg hk, List.reverse_append, List.reverse_singleton, List.singleton_append, both_two _ _ _ _ _ _ _ h, if_neg hk]
        have ih := both_part n (l.drop (lft l.length)) (m - lft l.length) false old (by rw [List.length_drop]; omega) (by omega) (by rw [List.length_drop]; omega) (fun h => by cases h)
        rw [List.length_drop] at ih
        obtain ⟨a, ha, _, _⟩ := lft_spec h2
        have hj : root lf nd e (l.take m) = nd (root lf nd e (l.take (lft l.length))) (root lf nd e ((l.drop (lft l.length)).take (m - lft l.length))) := by
          have hd : l.take m = l.take (lft l.length) ++ (l.drop (lft l.length)).take (m - lft l.length) := by
            rw [← List.take_add, show lft l.length + (m - lft l.length) = m by omega]
          rw [hd]
          exact root_join lf nd e (a := a) (by rw [List.length_take, ← ha]; omega) (by rw [List.length_take, List.length_drop]; omega) (by rw [List.length_take, List.length_drop, ← ha]; omega)
        rw [ih, hj]; rfl
    · obtain rfl : m = l.length := by omega
      rw [part_all _ _ _ _ _ _ hm (Nat.le_refl _), List.take_length]
      rw [List.take_length] at ho
      cases b with
      | true => rw [if_pos rfl, List.reverse_nil, bothF, if_pos (Nat.le_refl _), ho rfl]; rfl
      | false => rw [if_neg (by decide), List.reverse_singleton, bothF, if_pos (Nat.le_refl _)]; rfl
end
end Go.Proofs.YtoipckflokdakaaDoor.Mk
