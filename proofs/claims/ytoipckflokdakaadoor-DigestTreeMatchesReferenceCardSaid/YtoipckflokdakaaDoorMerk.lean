/- Trees of digests, in plain Lean: the root of a list, by halves and by complete parts; no program stands here. -/
namespace Go.Proofs.YtoipckflokdakaaDoor.Mk
/-- the greatest power of two that is less than n -/
def lft (n : Nat) : Nat := 2 ^ (n - 1).log2
theorem lft_eq {n a : Nat} (h1 : 2 ^ a < n) (h2 : n ≤ 2 ^ (a + 1)) : lft n = 2 ^ a := by
  rw [lft, show (n - 1).log2 = a from (Nat.log2_eq_iff (by have := Nat.two_pow_pos a; omega)).2 ⟨by omega, by omega⟩]
theorem lft_spec {n : Nat} (h : 2 ≤ n) : ∃ a, lft n = 2 ^ a ∧ 2 ^ a < n ∧ n ≤ 2 ^ (a + 1) := by
  have h1 := (Nat.log2_eq_iff (n := n - 1) (k := (n - 1).log2) (by omega)).1 rfl
  exact ⟨(n - 1).log2, rfl, by omega, by omega⟩
theorem lft_lt {n : Nat} (h : 2 ≤ n) : lft n < n := by obtain ⟨a, h1, h2, _⟩ := lft_spec h; omega
theorem lft_pos {n : Nat} : 1 ≤ lft n := Nat.one_le_two_pow
theorem lft_half {n : Nat} (h : 2 ≤ n) : n ≤ 2 * lft n := by
  obtain ⟨a, h1, _, h3⟩ := lft_spec h
  rw [h1]; rw [Nat.pow_succ] at h3; omega
section
variable {S : Type} (lf : S → S) (nd : S → S → S) (e : S)
/-- the root of a list -/
def rootF : Nat → List S → S
  | 0, _ => e
  | _ + 1, [] => e
  | _ + 1, [x] => lf x
  | f + 1, l => nd (rootF f (l.take (lft l.length))) (rootF f (l.drop (lft l.length)))
def root (l : List S) : S := rootF lf nd e l.length l
theorem rootF_split (f : Nat) (l : List S) (h : 2 ≤ l.length) : rootF lf nd e (f + 1) l = nd (rootF lf nd e f (l.take (lft l.length))) (rootF lf nd e f (l.drop (lft l.length))) := by
  match l, h with
  | a :: b :: t, _ => rfl
theorem rootF_fuel : ∀ (f g : Nat) (l : List S), l.length ≤ f → l.length ≤ g → rootF lf nd e f l = rootF lf nd e g l
  | 0, g, l, hf, _ => by
    have : l = [] := List.eq_nil_of_length_eq_zero (by omega)
    subst this
    cases g <;> rfl
  | f + 1, 0, l, _, hg => by
    have : l = [] := List.eq_nil_of_length_eq_zero (by omega)
    subst this
    rfl
  | f + 1, g + 1, l, hf, hg => by
    by_cases h : 2 ≤ l.length
    · have h1 := lft_lt h
      have h2 := lft_pos (n := l.length)
      rw [rootF_split _ _ _ _ _ h, rootF_split _ _ _ _ _ h, rootF_fuel f g _ (by rw [List.length_take]; omega) (by rw [List.length_take]; omega), rootF_fuel f g _ (by rw [List.length_drop]; omega) (by rw [List.length_drop]; omega)]
    · match l, h with
      | [], _ => rfl
      | [x], _ => rfl
      | a :: b :: t, h => exact absurd (by simp) h
theorem root_nil : root lf nd e [] = e := rfl
theorem root_one (x : S) : root lf nd e [x] = lf x := rfl
theorem root_split (l : List S) (h : 2 ≤ l.length) : root lf nd e l = nd (root lf nd e (l.take (lft l.length))) (root lf nd e (l.drop (lft l.length))) := by
  have h1 := lft_lt h
  have h2 := lft_pos (n := l.length)
  obtain ⟨n, hn⟩ : ∃ n, l.length = n + 1 := ⟨l.length - 1, by omega⟩
  rw [root, hn, rootF_split _ _ _ _ _ h]
  rw [rootF_fuel lf nd e n _ _ (by rw [List.length_take]; omega) (Nat.le_refl _), rootF_fuel lf nd e n _ (l.drop (lft l.length)) (by rw [List.length_drop]; omega) (Nat.le_refl _)]
  rw [hn]; rfl
/-- a complete part and what follows, which is no longer -/
theorem root_join {x y : List S} {a : Nat} (hx : x.length = 2 ^ a) (h1 : 1 ≤ y.length) (h2 : y.length ≤ 2 ^ a) : root lf nd e (x ++ y) = nd (root lf nd e x) (root lf nd e y) := by
  have hp := Nat.two_pow_pos a
  have hl : lft (x ++ y).length = x.length := by
    rw [hx]
    refine lft_eq ?_ ?_
    · rw [List.length_append, hx]; omega
    · rw [List.length_append, hx, Nat.pow_succ]; omega
  rw [root_split _ _ _ _ (by rw [List.length_append]; omega), hl, List.take_left' rfl, List.drop_left' rfl]
/-- the length is a power of two -/
def Pw (x : List S) : Prop := ∃ a, x.length = 2 ^ a
/-- complete parts, the smallest one first -/
structure Good (P : List (List S)) : Prop where
  asc : P.Pairwise fun x y => x.length < y.length
  pw : ∀ x ∈ P, Pw x
theorem Good.nil : Good ([] : List (List S)) := ⟨List.Pairwise.nil, fun _ h => by cases h⟩
theorem Good.tail {x : List S} {P : List (List S)} (h : Good (x :: P)) : Good P := ⟨(List.pairwise_cons.1 h.asc).2, fun y hy => h.pw y (List.mem_cons_of_mem _ hy)⟩
/-- a part more, which may be as large as the next one -/
structure Near (x : List S) (Q : List (List S)) : Prop where
  good : Good Q
  pw : Pw x
  le : ∀ y ∈ Q, x.length ≤ y.length
theorem Near.start {Q : List (List S)} (h : Good Q) (s : S) : Near [s] Q := ⟨h, ⟨0, rfl⟩, fun y hy => by
  obtain ⟨a, ha⟩ := h.pw y hy
  rw [ha]; exact Nat.one_le_two_pow⟩
theorem pow_lt_double {a b : Nat} (h : 2 ^ a < 2 ^ b) : 2 ^ a + 2 ^ a ≤ 2 ^ b := by
  have : a < b := by
    rcases Nat.lt_or_ge a b with h1 | h1
    · exact h1
    · exact absurd (Nat.pow_le_pow_right (by decide : 0 < 2) h1) (by omega)
  have h2 := Nat.pow_le_pow_right (by decide : 0 < 2) (show a + 1 ≤ b from this)
  rw [Nat.pow_succ] at h2
  omega
theorem Near.merge {x y : List S} {R : List (List S)} (h : Near x (y :: R)) (he : y.length = x.length) : Near (y ++ x) R := by
  obtain ⟨a, ha⟩ := h.pw
  refine ⟨h.good.tail, ⟨a + 1, by rw [List.length_append, he, ha, Nat.pow_succ]; omega⟩, fun z hz => ?_⟩
  have h1 := (List.pairwise_cons.1 h.good.asc).1 z hz
  obtain ⟨b, hb⟩ := h.good.tail.pw z hz
  rw [he, ha, hb] at h1
  rw [List.length_append, he, ha, hb]
  exact pow_lt_double h1
theorem Near.stop {x : List S} {Q : List (List S)} (h : Near x Q) (hn : ∀ y R, Q = y :: R → y.length ≠ x.length) : Good (x :: Q) := by
  refine ⟨List.pairwise_cons.2 ⟨fun z hz => ?_, h.good.asc⟩, fun z hz => ?_⟩
  · cases Q with
    | nil => cases hz
    | cons y R =>
      have h1 := hn y R rfl
      have h2 := h.le y (List.mem_cons_self ..)
      rcases List.mem_cons.1 hz with rfl | hz
      · omega
      · have := (List.pairwise_cons.1 h.good.asc).1 z hz
        omega
  · rcases List.mem_cons.1 hz with rfl | hz
    · exact h.pw
    · exact h.good.pw z hz
theorem Near.root {x y : List S} {R : List (List S)} (h : Near x (y :: R)) (he : y.length = x.length) : root lf nd e (y ++ x) = nd (Mk.root lf nd e y) (Mk.root lf nd e x) := by
  obtain ⟨a, ha⟩ := h.pw
  exact root_join lf nd e (a := a) (by omega) (by rw [ha]; exact Nat.one_le_two_pow) (by omega)
theorem fold_root : ∀ (Q : List (List S)) (z : List S), Good Q → 1 ≤ z.length → (∀ y ∈ Q, z.length ≤ y.length) → Q.foldl (fun o y => nd (root lf nd e y) o) (root lf nd e z) = root lf nd e (Q.reverse.flatten ++ z)
  | [], z, _, _, _ => by simp
  | y :: R, z, hg, h1, h2 => by
    obtain ⟨a, ha⟩ := hg.pw y (List.mem_cons_self ..)
    have h3 := h2 y (List.mem_cons_self ..)
    rw [List.foldl_cons, ← root_join lf nd e ha h1 (by omega), fold_root R (y ++ z) hg.tail (by rw [List.length_append]; omega) (fun w hw => ?_)]
    · simp
    · obtain ⟨b, hb⟩ := hg.tail.pw w hw
      have h4 := (List.pairwise_cons.1 hg.asc).1 w hw
      rw [ha, hb] at h4
      have := pow_lt_double h4
      rw [List.length_append, hb]
      omega
theorem Good.root {x : List S} {Q : List (List S)} (h : Good (x :: Q)) : Q.foldl (fun o y => nd (Mk.root lf nd e y) o) (Mk.root lf nd e x) = Mk.root lf nd e (x :: Q).reverse.flatten := by
  obtain ⟨a, ha⟩ := h.pw x (List.mem_cons_self ..)
  rw [fold_root lf nd e Q x h.tail (by rw [ha]; exact Nat.one_le_two_pow) (fun y hy => Nat.le_of_lt ((List.pairwise_cons.1 h.asc).1 y hy))]
  simp
/-! proofs -/
/-- the proof of entry i -/
def proofF : Nat → List S → Nat → List S
  | 0, _, _ => []
  | f + 1, l, i => if l.length ≤ 1 then [] else if i < lft l.length then proofF f (l.take (lft l.length)) i ++ [root lf nd e (l.drop (lft l.length))] else proofF f (l.drop (lft l.length)) (i - lft l.length) ++ [root lf nd e (l.take (lft l.length))]
def proof (l : List S) (i : Nat) : List S := proofF lf nd e l.length l i
theorem proofF_split (f : Nat) (l : List S) (i : Nat) (h : 2 ≤ l.length) : proofF lf nd e (f + 1) l i = if i < lft l.length then proofF lf nd e f (l.take (lft l.length)) i ++ [root lf nd e (l.drop (lft l.length))] else proofF lf nd e f (l.drop (lft l.length)) (i - lft l.length) ++ [root lf nd e (l.take (lft l.length))] := by
  rw [proofF, if_neg (by omega)]
theorem proofF_one (f : Nat) (l : List S) (i : Nat) (h : l.length ≤ 1) : proofF lf nd e f l i = [] := by
  cases f with
  | zero => rfl
  | succ f => rw [proofF, if_pos h]
theorem proofF_fuel : ∀ (f g : Nat) (l : List S) (i : Nat), l.length ≤ f → l.length ≤ g → proofF lf nd e f l i = proofF lf nd e g l i
  | f, g, l, i, hf, hg => by
    by_cases h : 2 ≤ l.length
    · obtain ⟨f', rfl⟩ : ∃ f', f = f' + 1 := ⟨f - 1, by omega⟩
      obtain ⟨g', rfl⟩ : ∃ g', g = g' + 1 := ⟨g - 1, by omega⟩
      have h1 := lft_lt h
      have h2 := lft_pos (n := l.length)
      rw [proofF_split _ _ _ _ _ _ h, proofF_split _ _ _ _ _ _ h, proofF_fuel f' g' _ i (by rw [List.length_take]; omega) (by rw [List.length_take]; omega), proofF_fuel f' g' _ (i - lft l.length) (by rw [List.length_drop]; omega) (by rw [List.length_drop]; omega)]
    · rw [proofF_one _ _ _ _ _ _ (by omega), proofF_one _ _ _ _ _ _ (by omega)]
theorem proof_one (l : List S) (i : Nat) (h : l.length ≤ 1) : proof lf nd e l i = [] := proofF_one lf nd e _ l i h
theorem proof_split (l : List S) (i : Nat) (h : 2 ≤ l.length) : proof lf nd e l i = if i < lft l.length then proof lf nd e (l.take (lft l.length)) i ++ [root lf nd e (l.drop (lft l.length))] else proof lf nd e (l.drop (lft l.length)) (i - lft l.length) ++ [root lf nd e (l.take (lft l.length))] := by
  obtain ⟨n, hn⟩ : ∃ n, l.length = n + 1 := ⟨l.length - 1, by omega⟩
  have h1 := lft_lt h
  have h2 := lft_pos (n := l.length)
  unfold proof
  rw [proofF_fuel lf nd e l.length (n + 1) l i (by omega) (by omega), proofF_split _ _ _ _ _ _ h, proofF_fuel lf nd e n _ (l.take (lft l.length)) i (by rw [List.length_take]; omega) (Nat.le_refl _), proofF_fuel lf nd e n _ (l.drop (lft l.length)) _ (by rw [List.length_drop]; omega) (Nat.le_refl _)]
theorem proof_length_lt (l : List S) : ∀ i, (proof lf nd e l i).length ≤ l.length := by
  have h : ∀ (n : Nat) (l : List S) (i : Nat), l.length ≤ n → (proof lf nd e l i).length ≤ l.length := by
    intro n
    induction n with
    | zero => intro l i hn; rw [proof_one _ _ _ _ _ (by omega)]; exact Nat.zero_le _
    | succ n ih =>
      intro l i hn
      by_cases h : 2 ≤ l.length
      · have h1 := lft_lt h
        have h2 := lft_pos (n := l.length)
        rw [proof_split _ _ _ _ _ h]
        split
        · have := ih (l.take (lft l.length)) i (by rw [List.length_take]; omega)
          rw [List.length_take] at this
          rw [List.length_append, List.length_singleton]; omega
        · have := ih (l.drop (lft l.length)) (i - lft l.length) (by rw [List.length_drop]; omega)
          rw [List.length_drop] at this
          rw [List.length_append, List.length_singleton]; omega
      · rw [proof_one _ _ _ _ _ (by omega)]; exact Nat.zero_le _
  intro i
  exact h _ l i (Nat.le_refl _)
/-- the value of n, i and a proof, if the proof has the right length; the proof's last element first -/
def valueF : Nat → Nat → S → List S → Option S
  | n, _, s, [] => if n ≤ 1 then some (lf s) else none
  | n, i, s, x :: p => if n ≤ 1 then none else if i < lft n then (valueF (lft n) i s p).map fun v => nd v x else (valueF (n - lft n) (i - lft n) s p).map fun v => nd x v
/-! extensions -/
def partF : Nat → List S → Nat → Bool → List S
  | 0, _, _, _ => []
  | f + 1, l, m, b => if l.length ≤ m then (if b then [] else [root lf nd e l]) else
      if m ≤ lft l.length then partF f (l.take (lft l.length)) m b ++ [root lf nd e (l.drop (lft l.length))] else partF f (l.drop (lft l.length)) (m - lft l.length) false ++ [root lf nd e (l.take (lft l.length))]
/-- the extension of the first m entries -/
def part (l : List S) (m : Nat) (b : Bool) : List S := partF lf nd e l.length l m b
theorem partF_all (f : Nat) (l : List S) (m : Nat) (b : Bool) (h : l.length ≤ m) : partF lf nd e (f + 1) l m b = if b then [] else [root lf nd e l] := by
  rw [partF, if_pos h]
theorem partF_split (f : Nat) (l : List S) (m : Nat) (b : Bool) (h : m < l.length) : partF lf nd e (f + 1) l m b = if m ≤ lft l.length then partF lf nd e f (l.take (lft l.length)) m b ++ [root lf nd e (l.drop (lft l.length))] else partF lf nd e f (l.drop (lft l.length)) (m - lft l.length) false ++ [root lf nd e (l.take (lft l.length))] := by
  rw [partF, if_neg (by omega)]
theorem partF_fuel : ∀ (f g : Nat) (l : List S) (m : Nat) (b : Bool), 1 ≤ m → 1 ≤ l.length → l.length ≤ f → l.length ≤ g → partF lf nd e f l m b = partF lf nd e g l m b
  | f, g, l, m, b, hm, hl, hf, hg => by
    obtain ⟨f', rfl⟩ : ∃ f', f = f' + 1 := ⟨f - 1, by omega⟩
    obtain ⟨g', rfl⟩ : ∃ g', g = g' + 1 := ⟨g - 1, by omega⟩
    by_cases h : m < l.length
    · have h1 := lft_lt (n := l.length) (by omega)
      have h2 := lft_pos (n := l.length)
      rw [partF_split _ _ _ _ _ _ _ h, partF_split _ _ _ _ _ _ _ h]
      by_cases hk : m ≤ lft l.length
      · rw [if_pos hk, if_pos hk, partF_fuel f' g' _ m b hm (by rw [List.length_take]; omega) (by rw [List.length_take]; omega) (by rw [List.length_take]; omega)]
      · rw [if_neg hk, if_neg hk, partF_fuel f' g' _ (m - lft l.length) false (by omega) (by rw [List.length_drop]; omega) (by rw [List.length_drop]; omega) (by rw [List.length_drop]; omega)]
    · rw [partF_all _ _ _ _ _ _ _ (by omega), partF_all _ _ _ _ _ _ _ (by omega)]
theorem part_all (l : List S) (m : Nat) (b : Bool) (hl : 1 ≤ l.length) (h : l.length ≤ m) : part lf nd e l m b = if b then [] else [root lf nd e l] := by
  obtain ⟨n, hn⟩ : ∃ n, l.length = n + 1 := ⟨l.length - 1, by omega⟩
  rw [part, hn, partF_all _ _ _ _ _ _ _ h]
theorem part_split (l : List S) (m : Nat) (b : Bool) (hm : 1 ≤ m) (h : m < l.length) : part lf nd e l m b = if m ≤ lft l.length then part lf nd e (l.take (lft l.length)) m b ++ [root lf nd e (l.drop (lft l.length))] else part lf nd e (l.drop (lft l.length)) (m - lft l.length) false ++ [root lf nd e (l.take (lft l.length))] := by
  obtain ⟨n, hn⟩ : ∃ n, l.length = n + 1 := ⟨l.length - 1, by omega⟩
  have h1 := lft_lt (n := l.length) (by omega)
  have h2 := lft_pos (n := l.length)
  unfold part
  rw [partF_fuel lf nd e l.length (n + 1) l m b hm (by omega) (by omega) (by omega), partF_split _ _ _ _ _ _ _ h]
  by_cases hk : m ≤ lft l.length
  · rw [if_pos hk, if_pos hk, partF_fuel lf nd e n _ (l.take (lft l.length)) m b hm (by rw [List.length_take]; omega) (by rw [List.length_take]; omega) (Nat.le_refl _)]
  · rw [if_neg hk, if_neg hk, partF_fuel lf nd e n _ (l.drop (lft l.length)) (m - lft l.length) false (by omega) (by rw [List.length_drop]; omega) (by rw [List.length_drop]; omega) (Nat.le_refl _)]
theorem part_length : ∀ (n : Nat) (l : List S) (m : Nat) (b : Bool), 1 ≤ m → 1 ≤ l.length → l.length ≤ n → (part lf nd e l m b).length ≤ l.length
  | 0, _, _, _, _, hl, hn => by omega
  | n + 1, l, m, b, hm, hl, hn => by
    by_cases h : m < l.length
    · have h1 := lft_lt (n := l.length) (by omega)
      have h2 := lft_pos (n := l.length)
      rw [part_split _ _ _ _ _ _ hm h]
      by_cases hk : m ≤ lft l.length
      · have := part_length n (l.take (lft l.length)) m b hm (by rw [List.length_take]; omega) (by rw [List.length_take]; omega)
        rw [List.length_take] at this
        rw [if_pos hk, List.length_append, List.length_singleton]; omega
      · have := part_length n (l.drop (lft l.length)) (m - lft l.length) false (by omega) (by rw [List.length_drop]; omega) (by rw [List.length_drop]; omega)
        rw [List.length_drop] at this
        rw [if_neg hk, List.length_append, List.length_singleton]; omega
    · rw [part_all _ _ _ _ _ _ hl (by omega)]
      cases b
      · exact hl
      · exact Nat.zero_le _
/-- the two values of m, n, a proof and whole; the proof's last element first -/
def bothF (old : S) : Nat → Nat → List S → Bool → Option (S × S)
  | m, n, [], b => if n ≤ m then (if b then some (old, old) else none) else none
  | m, n, x :: p, b => if n ≤ m then (if b then none else (if p.isEmpty then some (x, x) else none)) else
      if m ≤ lft n then (bothF old m (lft n) p b).map fun v => (v.1, nd v.2 x) else (bothF old (m - lft n) (n - lft n) p false).map fun v => (nd x v.1, nd x v.2)
end
end Go.Proofs.YtoipckflokdakaaDoor.Mk
