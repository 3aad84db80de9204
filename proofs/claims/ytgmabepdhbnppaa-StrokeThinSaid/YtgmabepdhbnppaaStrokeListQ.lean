/- Lists of indices from the first dot to the last one, and what they say; no program. -/
import Derived.Test.YtgmabepdhbnppaaStrokeChain
namespace Go.Proofs.Ytgmabepdhbnppaa.Str
/-- a list of indices from the first dot to the last one -/
structure ListQ (D : List Dot) (T : List Nat) : Prop where
  pos : 1 ≤ T.length
  len : T.length ≤ 200
  first : T.getD 0 0 = 0
  last : T.getD (T.length - 1) 0 = D.length - 1
  asc : ∀ i, i + 1 < T.length → T.getD i 0 < T.getD (i + 1) 0
  lt : ∀ i, i < T.length → T.getD i 0 < D.length
/-- the pieces before the k-th element say enough -/
def saysTo (D : List Dot) (z : Int) (T : List Nat) : Nat → Bool
  | 0 => true
  | 1 => true
  | k + 2 => saysTo D z T (k + 1) && okD D z (T.getD k 0) (T.getD (k + 1) 0)
theorem says_iff {D : List Dot} {z : Int} {T : List Nat} : ∀ {k : Nat}, saysTo D z T k = true ↔ ∀ i, i + 1 < k → okD D z (T.getD i 0) (T.getD (i + 1) 0) = true
  | 0 => ⟨fun _ i h => by omega, fun _ => rfl⟩
  | 1 => ⟨fun _ i h => by omega, fun _ => rfl⟩
  | k + 2 => by
    rw [saysTo, Bool.and_eq_true, says_iff]
    constructor
    · rintro ⟨h1, h2⟩ i hi
      rcases (show i + 1 < k + 1 ∨ i = k by omega) with h | h
      · exact h1 i h
      · subst h; exact h2
    · intro h
      exact ⟨fun i hi => h i (by omega), h k (by omega)⟩
theorem says_next {D : List Dot} {z : Int} {T : List Nat} {j : Nat} (h : 0 < j) : saysTo D z T (j + 1) = (saysTo D z T j && okD D z (T.getD (j - 1) 0) (T.getD j 0)) := by
  obtain ⟨i, rfl⟩ : ∃ i, j = i + 1 := ⟨j - 1, by omega⟩
  rfl
/-- all dots behind i and before j are near -/
def okTo (D : List Dot) (z : Int) (i k : Nat) (j : Nat) : Bool := (List.range (j - i - 1)).all fun q => nearD (dotAt D i) (dotAt D k) (dotAt D (i + 1 + q)) z
theorem okTo_next {D : List Dot} {z : Int} {i k j : Nat} (h : i < j) : okTo D z i k (j + 1) = (okTo D z i k j && nearD (dotAt D i) (dotAt D k) (dotAt D j) z) := by
  rw [okTo, okTo, show j + 1 - i - 1 = (j - i - 1) + 1 by omega, List.range_succ, List.all_append]
  simp [show i + 1 + (j - i - 1) = j by omega]
theorem okTo_all {D : List Dot} {z : Int} {i k : Nat} : okTo D z i k k = okD D z i k := rfl
theorem okTo_first {D : List Dot} {z : Int} {i k : Nat} : okTo D z i k (i + 1) = true := by simp [okTo]
/-- the other list, as far as it is built -/
structure OthQ (D : List Dot) (k : Nat) (O : List Nat) : Prop where
  asc : ∀ i, i + 1 < O.length → O.getD i 0 < O.getD (i + 1) 0
  lt : ∀ i, i < O.length → O.getD i 0 < k
  len : O.length ≤ k
  pos : 0 < k → 1 ≤ O.length ∧ O.getD 0 0 = 0
  last : k = D.length → 0 < k → O.getD (O.length - 1) 0 = D.length - 1
theorem getD_app {l : List Nat} {x i : Nat} (h : i < l.length) : (l ++ [x]).getD i 0 = l.getD i 0 := by
  rw [List.getD, List.getD, List.getElem?_append_left h]
theorem getD_end {l : List Nat} {x : Nat} : (l ++ [x]).getD l.length 0 = x := by
  rw [List.getD, List.getElem?_append_right (Nat.le_refl _)]; simp
theorem oth_start (D : List Dot) : OthQ D 0 [] := ⟨fun i hi => by simp at hi, fun i hi => by simp at hi, by simp, fun h => by omega, fun _ h => by omega⟩
theorem oth_take {D : List Dot} {k : Nat} {O : List Nat} (h : OthQ D k O) (hk : k < D.length) : OthQ D (k + 1) (O ++ [k]) := by
  obtain ⟨h1, h2, h3, h4, h5⟩ := h
  refine ⟨fun i hi => ?_, fun i hi => ?_, by simp; omega, fun _ => ⟨by simp, ?_⟩, fun hd _ => ?_⟩
  · rw [List.length_append] at hi
    simp only [List.length_cons, List.length_nil] at hi
    rw [getD_app (by omega)]
    by_cases e : i + 1 = O.length
    · rw [e, getD_end]; exact h2 i (by omega)
    · rw [getD_app (by omega)]; exact h1 i (by omega)
  · rw [List.length_append] at hi
    simp only [List.length_cons, List.length_nil] at hi
    by_cases e : i = O.length
    · rw [e, getD_end]; omega
    · rw [getD_app (by omega)]; have := h2 i (by omega); omega
  · rcases Nat.eq_zero_or_pos k with h | h
    · subst h
      have : O = [] := List.eq_nil_of_length_eq_zero (by omega)
      subst this
      rfl
    · have := h4 h
      rw [getD_app (by omega)]
      exact this.2
  · rw [List.length_append, show O.length + [k].length - 1 = O.length from rfl, getD_end]; omega
theorem oth_skip {D : List Dot} {k : Nat} {O : List Nat} (h : OthQ D k O) (hk : 0 < k) (hl : k ≠ D.length - 1) (_hk2 : k < D.length) : OthQ D (k + 1) O := by
  obtain ⟨h1, h2, h3, h4, h5⟩ := h
  exact ⟨h1, fun i hi => by have := h2 i hi; omega, by omega, fun _ => h4 hk, fun hd _ => by omega⟩
theorem oth_list {D : List Dot} {O : List Nat} (h : OthQ D D.length O) (h1 : 1 ≤ D.length) (h2 : D.length ≤ 24) : ListQ D O := by
  obtain ⟨g1, g2, g3, g4, g5⟩ := h
  exact ⟨(g4 (by omega)).1, by omega, (g4 (by omega)).2, g5 rfl (by omega), g1, g2⟩
/-- what Thin returns is such a list, and says enough -/
theorem thin_list {D : List Dot} (h200 : D.length ≤ 200) (h1 : 1 ≤ D.length) (z : Int) : ListQ D (thinF D z) ∧ saysTo D z (thinF D z) (thinF D z).length = true := by
  obtain ⟨t1, t2, t3, t4, t5⟩ := thin_spec h200 h1 z
  have hle : ∀ i, i < (thinF D z).length → i ≤ (thinF D z).getD i 0 := by
    intro i
    induction i with
    | zero => intro _; omega
    | succ i ih =>
      intro hi
      have := ih (by omega)
      have := (t4 i hi).1
      omega
  have hlen : (thinF D z).length ≤ 200 := by
    have a := hle ((thinF D z).length - 1) (by omega)
    have b := t5 ((thinF D z).length - 1) (by omega)
    omega
  exact ⟨⟨t1, hlen, t2, t3, fun i hi => (t4 i hi).1, t5⟩, says_iff.2 fun i hi => (t4 i hi).2⟩
/-- no list that says enough has fewer indices -/
theorem thin_least {D : List Dot} (h200 : D.length ≤ 200) (h1 : 1 ≤ D.length) (z : Int) {O : List Nat} (hO : ListQ D O) (hs : saysTo D z O O.length = true) : (thinF D z).length ≤ O.length := by
  have hb := (thin_best h200 h1 z).2
  have hp := hO.pos
  cases O with
  | nil => simp at hp
  | cons a r =>
    have ha : a = 0 := hO.first
    subst ha
    have hc := chain_of (ok := okD D z) (l := r) (a := 0) fun i hi => ⟨hO.asc i hi, says_iff.1 hs i hi⟩
    have hl : (0 :: r).getD r.length 0 = D.length - 1 := hO.last
    rw [hl] at hc
    have := (hb r hc).1
    rw [show thinF D z = 0 :: thinT D z from rfl, List.length_cons, List.length_cons]
    omega
end Go.Proofs.Ytgmabepdhbnppaa.Str
