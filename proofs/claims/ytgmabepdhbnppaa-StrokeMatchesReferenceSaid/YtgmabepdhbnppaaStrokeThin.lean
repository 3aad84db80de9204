/- Shortest lists, the first of them: what the program's way from behind and the reference's way from the front both return. Plain Lean. -/
namespace Go.Proofs.Ytgmabepdhbnppaa.Str

/-- a way from a to b: what follows a -/
def Chain (ok : Nat → Nat → Bool) : Nat → List Nat → Nat → Prop
  | a, [], b => a = b
  | a, k :: r, b => a < k ∧ ok a k = true ∧ Chain ok k r b
/-- a list is before another one -/
def firstB : List Nat → List Nat → Bool
  | a :: r, b :: s => if a = b then firstB r s else decide (a < b)
  | _, _ => false
theorem firstB_self : ∀ a : List Nat, firstB a a = false
  | [] => rfl
  | k :: r => by rw [firstB, if_pos rfl, firstB_self r]
theorem first_anti : ∀ {a b : List Nat}, a.length = b.length → firstB a b = false → firstB b a = false → a = b
  | [], [], _, _, _ => rfl
  | x :: r, y :: s, hl, h1, h2 => by
    rw [firstB] at h1 h2
    by_cases h : x = y
    · subst h
      rw [if_pos rfl] at h1 h2
      rw [first_anti (by simpa using hl) h1 h2]
    · rw [if_neg h] at h1
      rw [if_neg (fun e => h e.symm)] at h2
      simp at h1 h2
      omega
theorem first_trans : ∀ {a b c : List Nat}, a.length = b.length → b.length = c.length → firstB b a = false → firstB c b = false → firstB c a = false
  | [], _, c, _, _, _, _ => by cases c <;> rfl
  | x :: r, y :: s, z :: t, hl, hl2, h1, h2 => by
    rw [firstB] at h1 h2 ⊢
    by_cases h : y = x
    · subst h
      rw [if_pos rfl] at h1
      by_cases h' : z = y
      · subst h'
        rw [if_pos rfl] at h2 ⊢
        exact first_trans (by simpa using hl) (by simpa using hl2) h1 h2
      · rw [if_neg h'] at h2 ⊢
        exact h2
    · rw [if_neg h] at h1
      simp at h1
      by_cases h' : z = y
      · subst h'
        rw [if_neg h]
        simp; omega
      · rw [if_neg h'] at h2
        simp at h2
        rw [if_neg (by omega)]
        simp; omega
theorem first_true : ∀ {a b : List Nat}, a.length = b.length → firstB a b = true → firstB b a = false
  | x :: r, y :: s, hl, h => by
    rw [firstB] at h ⊢
    by_cases e : x = y
    · subst e
      rw [if_pos rfl] at h ⊢
      exact first_true (by simpa using hl) h
    · rw [if_neg e] at h
      rw [if_neg (fun e' => e e'.symm)]
      simp at h ⊢
      omega
theorem first_snoc : ∀ {a b : List Nat} (k : Nat), a.length = b.length → firstB (a ++ [k]) (b ++ [k]) = firstB a b
  | [], [], k, _ => by simp [firstB]
  | x :: r, y :: s, k, hl => by
    simp only [List.cons_append, firstB]
    rw [first_snoc k (by simpa using hl)]
theorem chain_snoc {ok : Nat → Nat → Bool} {k : Nat} : ∀ {a : Nat} {l : List Nat} {b : Nat}, Chain ok a l b → b < k → ok b k = true → Chain ok a (l ++ [k]) k
  | a, [], b, h, h1, h2 => by
    have h : a = b := h
    subst h
    exact ⟨h1, h2, rfl⟩
  | a, x :: r, b, h, h1, h2 => ⟨h.1, h.2.1, chain_snoc h.2.2 h1 h2⟩
theorem chain_unsnoc {ok : Nat → Nat → Bool} {k : Nat} : ∀ {a : Nat} {l : List Nat}, Chain ok a l k → (l = [] ∧ a = k) ∨ ∃ m i, l = m ++ [k] ∧ Chain ok a m i ∧ i < k ∧ ok i k = true
  | a, [], h => .inl ⟨rfl, h⟩
  | a, x :: r, h => by
    obtain ⟨h1, h2, h3⟩ := h
    rcases chain_unsnoc h3 with ⟨rfl, rfl⟩ | ⟨m, i, rfl, h4, h5, h6⟩
    · exact .inr ⟨[], a, rfl, rfl, h1, h2⟩
    · exact .inr ⟨x :: m, i, rfl, ⟨h1, h2, h4⟩, h5, h6⟩
theorem chain_le {ok : Nat → Nat → Bool} {k : Nat} : ∀ {a : Nat} {l : List Nat}, Chain ok a l k → a ≤ k
  | _, [], h => Nat.le_of_eq h
  | _, _ :: _, h => Nat.le_trans (Nat.le_of_lt h.1) (chain_le h.2.2)
/-- the first of the shortest ways from 0 to k -/
def Best (ok : Nat → Nat → Bool) (k : Nat) (l : List Nat) : Prop :=
  Chain ok 0 l k ∧ ∀ m, Chain ok 0 m k → l.length ≤ m.length ∧ (m.length = l.length → firstB m l = false)
theorem best_unique {ok : Nat → Nat → Bool} {k : Nat} {l m : List Nat} (h : Best ok k l) (h' : Best ok k m) : l = m := by
  have h1 := h.2 m h'.1
  have h2 := h'.2 l h.1
  have e : l.length = m.length := by omega
  exact first_anti e (h2.2 e) (h1.2 e.symm)

/-! from behind -/
section
variable (ok : Nat → Nat → Bool)
/-- the numbers for i, from those for k, k + 1, .. -/
def scanR (i : Nat) : List (Nat × Nat) → Nat → Nat × Nat
  | [], _ => (200, 0)
  | e :: r, k => if e.1 + 1 ≤ (scanR i r (k + 1)).1 ∧ ok i k = true then (e.1 + 1, k) else scanR i r (k + 1)
/-- the numbers for last - m, .., last -/
def tabs (last : Nat) : Nat → List (Nat × Nat)
  | 0 => [(0, 0)]
  | m + 1 => scanR ok (last - (m + 1)) (tabs last m) (last - m) :: tabs last m
theorem tabs_len (last : Nat) : ∀ m, (tabs ok last m).length = m + 1
  | 0 => rfl
  | m + 1 => by rw [tabs, List.length_cons, tabs_len last m]
def ent (last m : Nat) : Nat × Nat := (tabs ok last m).headD (0, 0)
theorem tabs_get (last : Nat) : ∀ m q, q ≤ m → (tabs ok last m)[q]? = some (ent ok last (m - q))
  | m, 0, _ => by
    rw [Nat.sub_zero, ent]
    cases h : tabs ok last m with
    | nil => have := tabs_len ok last m; rw [h] at this; simp at this
    | cons a r => rfl
  | m + 1, q + 1, h => by
    rw [tabs, List.getElem?_cons_succ, tabs_get last m q (by omega), Nat.add_sub_add_right]
/-- how many must follow i, and the next one -/
def needF (last i : Nat) : Nat := (ent ok last (last - i)).1
def nextF (last i : Nat) : Nat := (ent ok last (last - i)).2
theorem scan_spec (i : Nat) : ∀ (r : List (Nat × Nat)) (k : Nat),
    (scanR ok i r k = (200, 0) ∧ ∀ q (h : q < r.length), ok i (k + q) = true → 200 < r[q].1 + 1) ∨
    (∃ q, ∃ h : q < r.length, scanR ok i r k = (r[q].1 + 1, k + q) ∧ ok i (k + q) = true ∧ r[q].1 + 1 ≤ 200 ∧
      ∀ q' (h' : q' < r.length), ok i (k + q') = true → r[q].1 ≤ r[q'].1 ∧ (r[q].1 = r[q'].1 → q ≤ q'))
  | [], k => .inl ⟨rfl, fun q h => by simp at h⟩
  | e :: r, k => by
    rw [scanR]
    rcases scan_spec i r (k + 1) with ⟨hs, hall⟩ | ⟨q, hq, hs, hok, hle, hall⟩
    · rw [hs]
      by_cases hc : e.1 + 1 ≤ 200 ∧ ok i k = true
      · rw [if_pos hc]
        refine .inr ⟨0, by simp, rfl, hc.2, hc.1, fun q' h' ho => ?_⟩
        cases q' with
        | zero => exact ⟨Nat.le_refl _, fun _ => Nat.le_refl _⟩
        | succ q' =>
          have := hall q' (by simpa using h') (by rw [Nat.add_assoc, Nat.add_comm 1]; exact ho)
          simp only [List.getElem_cons_zero, List.getElem_cons_succ]
          omega
      · rw [if_neg hc]
        refine .inl ⟨rfl, fun q h ho => ?_⟩
        cases q with
        | zero =>
          simp only [List.getElem_cons_zero]
          by_cases h2 : e.1 + 1 ≤ 200
          · exact absurd ⟨h2, ho⟩ hc
          · omega
        | succ q => exact hall q (by simpa using h) (by rw [Nat.add_assoc, Nat.add_comm 1]; exact ho)
    · rw [hs]
      by_cases hc : e.1 + 1 ≤ r[q].1 + 1 ∧ ok i k = true
      · rw [if_pos hc]
        refine .inr ⟨0, by simp, rfl, hc.2, by simp only [List.getElem_cons_zero]; omega, fun q' h' ho => ?_⟩
        cases q' with
        | zero => exact ⟨Nat.le_refl _, fun _ => Nat.le_refl _⟩
        | succ q' =>
          have := hall q' (by simpa using h') (by rw [Nat.add_assoc, Nat.add_comm 1]; exact ho)
          simp only [List.getElem_cons_zero, List.getElem_cons_succ]
          omega
      · rw [if_neg hc]
        refine .inr ⟨q + 1, by simpa using hq, by rw [Nat.add_assoc, Nat.add_comm 1]; rfl, by rw [Nat.add_assoc, Nat.add_comm 1] at hok; exact hok, hle, fun q' h' ho => ?_⟩
        cases q' with
        | zero =>
          simp only [List.getElem_cons_zero, List.getElem_cons_succ]
          by_cases h2 : e.1 + 1 ≤ r[q].1 + 1
          · exact absurd ⟨h2, ho⟩ hc
          · omega
        | succ q' =>
          have := hall q' (by simpa using h') (by rw [Nat.add_assoc, Nat.add_comm 1]; exact ho)
          simp only [List.getElem_cons_succ]
          omega
variable {ok}
theorem need_last (last : Nat) : needF ok last last = 0 := by rw [needF, Nat.sub_self]; rfl
theorem ent_succ (last m : Nat) : ent ok last (m + 1) = scanR ok (last - (m + 1)) (tabs ok last m) (last - m) := rfl
theorem tabs_at {last i q : Nat} (hi : i < last) (hq : q < last - i) : ∀ h : q < (tabs ok last (last - i - 1)).length, ((tabs ok last (last - i - 1))[q]).1 = needF ok last (i + 1 + q) := by
  intro h
  have := tabs_get ok last (last - i - 1) q (by omega)
  rw [List.getElem?_eq_getElem h] at this
  rw [Option.some.inj this, needF, show last - (i + 1 + q) = last - i - 1 - q by omega]
/-- what the numbers are -/
theorem need_spec {last : Nat} (hl : last < 200) (hok : ∀ i, i < last → ok i (i + 1) = true) (i : Nat) (hi : i < last) :
    i < nextF ok last i ∧ nextF ok last i ≤ last ∧ ok i (nextF ok last i) = true ∧ needF ok last i = needF ok last (nextF ok last i) + 1 ∧
    ∀ k, i < k → k ≤ last → ok i k = true → needF ok last i ≤ needF ok last k + 1 ∧ (needF ok last i = needF ok last k + 1 → nextF ok last i ≤ k) := by
  suffices H : ∀ m, ∀ i, i < last → last - i = m → needF ok last i ≤ m ∧ (i < nextF ok last i ∧ nextF ok last i ≤ last ∧ ok i (nextF ok last i) = true ∧ needF ok last i = needF ok last (nextF ok last i) + 1 ∧
    ∀ k, i < k → k ≤ last → ok i k = true → needF ok last i ≤ needF ok last k + 1 ∧ (needF ok last i = needF ok last k + 1 → nextF ok last i ≤ k)) from (H _ i hi rfl).2
  intro m
  induction m with
  | zero => intro i hi hm; omega
  | succ m ih =>
    intro i hi hm
    have he : ent ok last (last - i) = scanR ok i (tabs ok last (last - i - 1)) (i + 1) := by
      rw [show last - i = (last - i - 1) + 1 by omega, ent_succ, Nat.add_sub_cancel, show last - (last - i - 1 + 1) = i by omega, show last - (last - i - 1) = i + 1 by omega]
    have hlen := tabs_len ok last (last - i - 1)
    have hnext : needF ok last (i + 1) ≤ m := by
      by_cases h : i + 1 < last
      · exact (ih (i + 1) h (by omega)).1
      · rw [show i + 1 = last by omega, need_last]; omega
    rcases scan_spec ok i (tabs ok last (last - i - 1)) (i + 1) with ⟨hs, hall⟩ | ⟨q, hq, hs, hk, hle, hall⟩
    · have h1 := hall 0 (by omega) (by simpa using hok i hi)
      rw [tabs_at hi (by omega) (by omega), show i + 1 + 0 = i + 1 from rfl] at h1
      omega
    · have eN : needF ok last i = needF ok last (i + 1 + q) + 1 := by
        rw [← tabs_at hi (by omega) hq]; rw [needF, he, hs]
      have eX : nextF ok last i = i + 1 + q := by rw [nextF, he, hs]
      have key : ∀ k, i < k → k ≤ last → ok i k = true → needF ok last (i + 1 + q) ≤ needF ok last k ∧ (needF ok last (i + 1 + q) = needF ok last k → i + 1 + q ≤ k) := by
        intro k h1 h2 h3
        have h4 := hall (k - (i + 1)) (by omega) (by rw [show i + 1 + (k - (i + 1)) = k by omega]; exact h3)
        rw [tabs_at hi (by omega) hq, tabs_at hi (by omega) (by omega), show i + 1 + (k - (i + 1)) = k by omega] at h4
        exact ⟨h4.1, fun e => by have := h4.2 e; omega⟩
      refine ⟨?_, by omega, by omega, by rw [eX]; exact hk, by rw [eX]; exact eN, ?_⟩
      · have := (key (i + 1) (by omega) (by omega) (hok i hi)).1
        omega
      · intro k h1 h2 h3
        have := key k h1 h2 h3
        rw [eN, eX]
        exact ⟨by omega, fun e => this.2 (by omega)⟩
/-- what follows i -/
def tailF (ok : Nat → Nat → Bool) (last : Nat) : Nat → Nat → List Nat
  | 0, _ => []
  | f + 1, i => if i < last then nextF ok last i :: tailF ok last f (nextF ok last i) else []
theorem tail_chain {last : Nat} (hl : last < 200) (hok : ∀ i, i < last → ok i (i + 1) = true) : ∀ f i, i ≤ last → last - i ≤ f →
    Chain ok i (tailF ok last f i) last ∧ (tailF ok last f i).length = needF ok last i ∧
    ∀ m, Chain ok i m last → needF ok last i ≤ m.length ∧ (m.length = needF ok last i → firstB m (tailF ok last f i) = false)
  | 0, i, hi, hf => by
    obtain rfl : i = last := by omega
    exact ⟨rfl, by rw [need_last]; rfl, fun m _ => ⟨by rw [need_last]; omega, fun _ => by cases m <;> rfl⟩⟩
  | f + 1, i, hi, hf => by
    rw [tailF]
    by_cases h : i < last
    · rw [if_pos h]
      obtain ⟨s1, s2, s3, s4, s5⟩ := need_spec hl hok i h
      obtain ⟨t1, t2, t3⟩ := tail_chain hl hok f (nextF ok last i) s2 (by omega)
      refine ⟨⟨s1, s3, t1⟩, by rw [List.length_cons, t2, s4], ?_⟩
      intro m hm
      cases m with
      | nil => have hm : i = last := hm; omega
      | cons k r =>
        obtain ⟨c1, c2, c3⟩ := hm
        have hk := chain_le c3
        have s6 := s5 k c1 hk c2
        obtain ⟨_, _, t6⟩ := tail_chain hl hok f k hk (by omega)
        have t7 := (t6 r c3).1
        rw [List.length_cons]
        refine ⟨by omega, fun e => ?_⟩
        have s7 := s6.2 (by omega)
        rw [firstB]
        by_cases he : k = nextF ok last i
        · rw [if_pos he]
          subst he
          exact (t3 r c3).2 (by omega)
        · rw [if_neg he]
          simp
          omega
    · rw [if_neg h]
      obtain rfl : i = last := by omega
      exact ⟨rfl, by rw [need_last]; rfl, fun m _ => ⟨by rw [need_last]; omega, fun _ => by cases m <;> rfl⟩⟩
theorem tail_best {last : Nat} (hl : last < 200) (hok : ∀ i, i < last → ok i (i + 1) = true) : Best ok last (tailF ok last last 0) := by
  obtain ⟨h1, h2, h3⟩ := tail_chain hl hok last 0 (by omega) (by omega)
  exact ⟨h1, fun m hm => by rw [h2]; exact h3 m hm⟩

/-! from the front -/
/-- own is the best one with a last but one below m -/
def Own (ok : Nat → Nat → Bool) (best : Nat → List Nat) (k m : Nat) (own : Option (List Nat)) : Prop :=
  match own with
  | none => ∀ i, i < m → ok i k = false
  | some l => (∃ i, i < m ∧ ok i k = true ∧ l = best i ++ [k]) ∧ ∀ i, i < m → ok i k = true → l.length ≤ (best i).length + 1 ∧ ((best i).length + 1 = l.length → firstB (best i ++ [k]) l = false)
/-- the turn of the reference's inner loop -/
def turn (ok : Nat → Nat → Bool) (best : Nat → List Nat) (k i : Nat) (own : Option (List Nat)) : Option (List Nat) :=
  match own with
  | none => if ok i k = true then some (best i ++ [k]) else none
  | some l => if l.length < (best i).length + 1 ∨ ok i k = false then some l else if (best i).length + 1 < l.length ∨ firstB (best i ++ [k]) l = true then some (best i ++ [k]) else some l
theorem own_turn {best : Nat → List Nat} {k m : Nat} {own : Option (List Nat)} (h : Own ok best k m own) : Own ok best k (m + 1) (turn ok best k m own) := by
  cases own with
  | none =>
    rw [turn]
    by_cases ho : ok m k = true
    · rw [if_pos ho]
      refine ⟨⟨m, by omega, ho, rfl⟩, fun i hi hk => ?_⟩
      by_cases e : i = m
      · subst e
        exact ⟨by simp, fun _ => firstB_self _⟩
      · have := h i (by omega); rw [hk] at this; cases this
    · rw [if_neg ho]
      intro i hi
      by_cases e : i = m
      · subst e; simpa using ho
      · exact h i (by omega)
  | some l =>
    obtain ⟨⟨i0, hi0, hk0, hl0⟩, hall⟩ := h
    rw [turn]
    by_cases hc : l.length < (best m).length + 1 ∨ ok m k = false
    · rw [if_pos hc]
      refine ⟨⟨i0, by omega, hk0, hl0⟩, fun i hi hk => ?_⟩
      by_cases e : i = m
      · subst e
        rcases hc with hc | hc
        · exact ⟨by omega, fun e => by omega⟩
        · rw [hk] at hc; cases hc
      · exact hall i (by omega) hk
    · rw [if_neg hc]
      have h1 : (best m).length + 1 ≤ l.length := by
        rcases Nat.lt_or_ge l.length ((best m).length + 1) with h | h
        · exact absurd (.inl h) hc
        · exact h
      have h2 : ok m k = true := by
        cases ho : ok m k with
        | true => rfl
        | false => exact absurd (.inr ho) hc
      by_cases hd : (best m).length + 1 < l.length ∨ firstB (best m ++ [k]) l = true
      · rw [if_pos hd]
        refine ⟨⟨m, by omega, h2, rfl⟩, fun i hi hk => ?_⟩
        rw [List.length_append, List.length_singleton]
        by_cases e : i = m
        · subst e
          exact ⟨Nat.le_refl _, fun _ => firstB_self _⟩
        · have h3 := hall i (by omega) hk
          refine ⟨by omega, fun e => ?_⟩
          have e2 : (best m).length + 1 = l.length := by omega
          have h4 : firstB (best m ++ [k]) l = true := by
            rcases hd with hd | hd
            · omega
            · exact hd
          have h5 := first_true (a := best m ++ [k]) (b := l) (by simp; omega) h4
          exact first_trans (a := best m ++ [k]) (b := l) (c := best i ++ [k]) (by simp; omega) (by simp; omega) h5 (h3.2 (by omega))
      · rw [if_neg hd]
        refine ⟨⟨i0, by omega, hk0, hl0⟩, fun i hi hk => ?_⟩
        by_cases e : i = m
        · subst e
          refine ⟨by omega, fun e => ?_⟩
          cases hf : firstB (best i ++ [k]) l with
          | false => rfl
          | true => exact absurd (.inr hf) hd
        · exact hall i (by omega) hk
theorem own_best {best : Nat → List Nat} {k : Nat} (hk : 0 < k) (hok : ok (k - 1) k = true) {own : Option (List Nat)} (hb : ∀ i, i < k → Best ok i (best i)) (h : Own ok best k k own) : ∃ l, own = some l ∧ Best ok k l := by
  cases own with
  | none => have := h (k - 1) (by omega); rw [hok] at this; cases this
  | some l =>
    obtain ⟨⟨i0, hi0, hk0, hl0⟩, hall⟩ := h
    refine ⟨l, rfl, ?_, ?_⟩
    · rw [hl0]; exact chain_snoc (hb i0 hi0).1 hi0 hk0
    · intro m hm
      rcases chain_unsnoc hm with ⟨rfl, rfl⟩ | ⟨m, i, rfl, h4, h5, h6⟩
      · omega
      · have h7 := hall i h5 h6
        have h8 := (hb i h5).2 m h4
        rw [List.length_append, List.length_singleton]
        refine ⟨by omega, fun e => ?_⟩
        have h9 : m.length = (best i).length := by omega
        have h10 := h8.2 h9
        have h11 := h7.2 (by omega)
        have hll : l.length = (best i).length + 1 := by omega
        exact first_trans (a := l) (b := best i ++ [k]) (c := m ++ [k]) (by simp; omega) (by simp; omega) h11 (by rw [first_snoc k h9]; exact h10)
end
end Go.Proofs.Ytgmabepdhbnppaa.Str
