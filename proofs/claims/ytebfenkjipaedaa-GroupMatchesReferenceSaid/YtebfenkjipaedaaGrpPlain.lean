/- Groups as lists: what is found, what lies around, what is valid. Plain, without a program. -/
import Derived.Test.YtebfenkjipaedaaMem
namespace Go.Proofs.Ytebfenkjipaedaa.Gp
/-- a group: its number, that around it, its members and the value that holds them -/
structure Grp where
  id : Int
  of : Int
  v : Value
  ms : List Int
def g0 : Grp := ⟨0, 0, .slice none 0 0, []⟩
instance : Inhabited Grp := ⟨g0⟩
/-- as a value -/
def gv (g : Grp) : Value := .agg #[.int .i64 g.id, .int .i64 g.of, g.v]
def I64 (n : Int) : Prop := -9223372036854775808 ≤ n ∧ n ≤ 9223372036854775807
def find (l : List Grp) (id : Int) : Option Grp := l.find? (fun g => g.id == id)
def ofI (l : List Grp) (id : Int) : Int := match find l id with | some g => g.of | none => 0
def okUp (l : List Grp) : Nat → Int → Bool
  | n, id => if id = -1 then true else match n with | 0 => false | n + 1 => (find l id).isSome && okUp l n (ofI l id)
def up (l : List Grp) : Nat → Int → List Int
  | 0, _ => []
  | n + 1, id => if id = -1 then [] else id :: up l n (ofI l id)
def owner (l : List Grp) (code : Int) : Option Int := (l.find? (fun g => g.ms.contains code)).map (·.id)
def path (l : List Grp) (code : Int) : List Int := match owner l code with | none => [] | some id => (up l 12 id).reverse
/-- members that ascend, from 1 on -/
structure MsOk (ms : List Int) (k : Nat) : Prop where
  rng : ∀ q, q < k → 1 ≤ ms.getD q 0 ∧ ms.getD q 0 ≤ 39999
  asc : ∀ q, q + 1 < k → ms.getD q 0 < ms.getD (q + 1) 0
/-- the first i groups: numbers that ascend, members, and no code in two of them -/
structure Pre (l : List Grp) (i : Nat) : Prop where
  idr : ∀ j, j < i → 0 ≤ (l.getD j g0).id ∧ (l.getD j g0).id ≤ 999
  asc : ∀ j, j + 1 < i → (l.getD j g0).id < (l.getD (j + 1) g0).id
  mem : ∀ j, j < i → MsOk (l.getD j g0).ms (l.getD j g0).ms.length
  apart : ∀ j, j < i → ∀ j', j' < j → ∀ c ∈ (l.getD j g0).ms, c ∉ (l.getD j' g0).ms
structure Valid (l : List Grp) : Prop where
  len : l.length ≤ 24
  pre : Pre l l.length
  chain : ∀ j, j < l.length → okUp l 12 (l.getD j g0).id = true
/-- integers that a program can hold, lists that are not too long -/
structure Sized (l : List Grp) : Prop where
  len : l.length ≤ 1000
  id : ∀ j, j < l.length → I64 (l.getD j g0).id
  of : ∀ j, j < l.length → I64 (l.getD j g0).of
  ms : ∀ j, j < l.length → ∀ q, q < (l.getD j g0).ms.length → I64 ((l.getD j g0).ms.getD q 0)
  mlen : ∀ j, j < l.length → (l.getD j g0).ms.length ≤ 1000
theorem getD_eq {α : Type} {l : List α} {d : α} {i : Nat} (h : i < l.length) : l.getD i d = l[i] := by simp [List.getD, h]
theorem mem_getD {α : Type} {l : List α} {d : α} {i : Nat} (h : i < l.length) : l.getD i d ∈ l := by rw [getD_eq h]; exact List.getElem_mem h
theorem ex_getD {α : Type} {l : List α} {x : α} (d : α) (h : x ∈ l) : ∃ i, i < l.length ∧ l.getD i d = x := by
  obtain ⟨i, hi, e⟩ := List.getElem_of_mem h
  exact ⟨i, hi, by rw [getD_eq hi]; exact e⟩
theorem take_succ {α : Type} {l : List α} {d : α} {i : Nat} (h : i < l.length) : l.take (i + 1) = l.take i ++ [l.getD i d] := by
  rw [getD_eq h, List.take_succ_eq_append_getElem h]
theorem find_some {l : List Grp} {id : Int} {g : Grp} (h : find l id = some g) : g ∈ l ∧ g.id = id := by
  refine ⟨List.mem_of_find?_eq_some h, ?_⟩
  have := List.find?_some h
  exact beq_iff_eq.1 this
theorem find_none {l : List Grp} {id : Int} (h : find l id = none) : ∀ g ∈ l, g.id ≠ id := fun g hg e => by
  have := List.find?_eq_none.1 h g hg
  simp [e] at this
theorem Pre.lt {l : List Grp} {i : Nat} (h : Pre l i) : ∀ {j k : Nat}, j < k → k < i → (l.getD j g0).id < (l.getD k g0).id := by
  intro j k hjk hk
  induction k with
  | zero => omega
  | succ k ih =>
    have h1 := h.asc k hk
    rcases Nat.lt_or_ge j k with h2 | h2
    · have := ih h2 (by omega); omega
    · obtain rfl : j = k := by omega
      exact h1
theorem Pre.mono {l : List Grp} {i k : Nat} (h : Pre l i) (hk : k ≤ i) : Pre l k :=
  ⟨fun j hj => h.idr j (by omega), fun j hj => h.asc j (by omega), fun j hj => h.mem j (by omega), fun j hj => h.apart j (by omega)⟩
theorem Valid.inj {l : List Grp} (h : Valid l) {j k : Nat} (hj : j < l.length) (hk : k < l.length) (e : (l.getD j g0).id = (l.getD k g0).id) : j = k := by
  rcases Nat.lt_trichotomy j k with h1 | h1 | h1
  · have := h.pre.lt h1 hk; omega
  · exact h1
  · have := h.pre.lt h1 hj; omega
/-- what is found among ascending numbers -/
theorem find_getD {l : List Grp} {i j : Nat} (h : Pre l i) (hi : i ≤ l.length) (hj : j < i) : find (l.take i) (l.getD j g0).id = some (l.getD j g0) := by
  cases hf : find (l.take i) (l.getD j g0).id with
  | none =>
    exact absurd rfl (find_none hf _ (by
      have : (l.take i).getD j g0 = l.getD j g0 := by rw [getD_eq (by rw [List.length_take]; omega), getD_eq (by omega), List.getElem_take]
      rw [← this]; exact mem_getD (by rw [List.length_take]; omega)))
  | some g =>
    obtain ⟨h1, h2⟩ := find_some hf
    obtain ⟨q, hq, hqe⟩ := ex_getD g0 h1
    rw [List.length_take] at hq
    have e1 : (l.take i).getD q g0 = l.getD q g0 := by rw [getD_eq (by rw [List.length_take]; omega), getD_eq (by omega), List.getElem_take]
    rw [e1] at hqe
    rcases Nat.lt_trichotomy q j with h3 | h3 | h3
    · have := h.lt h3 hj; rw [hqe] at this; omega
    · subst h3; rw [hqe]
    · have := h.lt h3 (show q < i by omega); rw [hqe] at this; omega
/-- the groups' map, one group more -/
theorem find_next {l : List Grp} {i : Nat} (hi : i < l.length) (h : ∀ j, j < i → (l.getD j g0).id ≠ (l.getD i g0).id) (x : Int) :
    (if x = (l.getD i g0).id then some (gv (l.getD i g0)) else (find (l.take i) x).map gv) = (find (l.take (i + 1)) x).map gv := by
  rw [take_succ (d := g0) hi, show find (l.take i ++ [l.getD i g0]) x = (find (l.take i) x).or (List.find? (fun g : Grp => g.id == x) [l.getD i g0]) from List.find?_append ..]
  by_cases e : x = (l.getD i g0).id
  · rw [if_pos e]
    have hn : find (l.take i) x = none := by
      cases hf : find (l.take i) x with
      | none => rfl
      | some g =>
        obtain ⟨h1, h2⟩ := find_some hf
        obtain ⟨q, hq, hqe⟩ := ex_getD g0 h1
        rw [List.length_take] at hq
        have e1 : (l.take i).getD q g0 = l.getD q g0 := by rw [getD_eq (by rw [List.length_take]; omega), getD_eq (by omega), List.getElem_take]
        exact absurd (by rw [← e1, hqe, h2, e]) (h q (by omega))
    rw [hn]
    simp [e]
  · rw [if_neg e]
    have hn : List.find? (fun g : Grp => g.id == x) [l.getD i g0] = none := by
      rw [List.find?_cons_of_neg (by rw [beq_iff_eq]; exact Ne.symm e)]; rfl
    rw [hn, Option.or_none]
/-- the owner of a code while the i-th group is read -/
def ownT (l : List Grp) (i k : Nat) (code : Int) : Option Int := if ((l.getD i g0).ms.take k).contains code then some (l.getD i g0).id else owner (l.take i) code
theorem ownT_zero (l : List Grp) (i : Nat) (code : Int) : ownT l i 0 code = owner (l.take i) code := by simp [ownT]
theorem ownT_next {l : List Grp} {i k : Nat} (hk : k < (l.getD i g0).ms.length) (code : Int) :
    (if code = (l.getD i g0).ms.getD k 0 then some (l.getD i g0).id else ownT l i k code) = ownT l i (k + 1) code := by
  unfold ownT
  rw [take_succ (d := 0) hk]
  by_cases e : code = (l.getD i g0).ms.getD k 0
  · rw [if_pos e, if_pos (by simp [e])]
  · rw [if_neg e]
    have : ((l.getD i g0).ms.take k ++ [(l.getD i g0).ms.getD k 0]).contains code = ((l.getD i g0).ms.take k).contains code := by
      rw [List.contains_eq_mem, List.contains_eq_mem]
      simp only [List.mem_append, List.mem_singleton, e, or_false]
    rw [this]
theorem owner_some {l : List Grp} {code id : Int} (h : owner l code = some id) : ∃ j, j < l.length ∧ code ∈ (l.getD j g0).ms ∧ (l.getD j g0).id = id := by
  unfold owner at h
  cases hf : l.find? (fun g => g.ms.contains code) with
  | none => rw [hf] at h; cases h
  | some g =>
    rw [hf] at h
    obtain ⟨q, hq, hqe⟩ := ex_getD g0 (List.mem_of_find?_eq_some hf)
    have h2 := List.find?_some hf
    refine ⟨q, hq, by rw [hqe]; simpa using h2, ?_⟩
    rw [hqe]; simpa using h
theorem owner_none {l : List Grp} {code : Int} (h : owner l code = none) : ∀ j, j < l.length → code ∉ (l.getD j g0).ms := fun j hj hc => by
  unfold owner at h
  rw [Option.map_eq_none_iff] at h
  have := List.find?_eq_none.1 h _ (mem_getD (d := g0) hj)
  simp at this
  exact this (by simpa [List.getD] using hc)
theorem getD_take {α : Type} {l : List α} {d : α} {i j : Nat} (hj : j < i) (hi : i ≤ l.length) : (l.take i).getD j d = l.getD j d := by
  rw [getD_eq (by rw [List.length_take]; omega), getD_eq (by omega), List.getElem_take]
theorem ownT_full {l : List Grp} {i : Nat} (hi : i < l.length) (h : ∀ j', j' < i → ∀ c ∈ (l.getD i g0).ms, c ∉ (l.getD j' g0).ms) (code : Int) :
    ownT l i (l.getD i g0).ms.length code = owner (l.take (i + 1)) code := by
  unfold ownT
  rw [List.take_length, take_succ (d := g0) hi]
  unfold owner
  rw [List.find?_append]
  by_cases e : code ∈ (l.getD i g0).ms
  · rw [if_pos (by simpa using e)]
    have hn : List.find? (fun g : Grp => g.ms.contains code) (l.take i) = none := by
      rw [List.find?_eq_none]
      intro g hg
      obtain ⟨q, hq, hqe⟩ := ex_getD g0 hg
      rw [List.length_take] at hq
      rw [getD_take (by omega) (by omega)] at hqe
      have := h q (by omega) code e
      rw [hqe] at this
      simpa using this
    rw [hn, Option.none_or, List.find?_cons_of_pos (by simpa [List.contains_eq_mem] using e)]
    rfl
  · rw [if_neg (by simpa using e)]
    have hn : List.find? (fun g : Grp => g.ms.contains code) [l.getD i g0] = none := by
      rw [List.find?_cons_of_neg (by simpa [List.contains_eq_mem] using e)]; rfl
    rw [hn, Option.or_none]
/-- a code that came before -/
theorem ownT_some {l : List Grp} {i k : Nat} {code : Int} (hi : i ≤ l.length) (h : (ownT l i k code).isSome = true) : code ∈ (l.getD i g0).ms.take k ∨ ∃ j, j < i ∧ code ∈ (l.getD j g0).ms := by
  unfold ownT at h
  by_cases e : code ∈ (l.getD i g0).ms.take k
  · exact .inl e
  · rw [if_neg (by simpa using e)] at h
    obtain ⟨id, hid⟩ := Option.isSome_iff_exists.1 h
    obtain ⟨j, hj, h1, _⟩ := owner_some hid
    rw [List.length_take] at hj
    rw [getD_take (by omega) (by omega)] at h1
    exact .inr ⟨j, by omega, h1⟩
theorem ownT_none {l : List Grp} {i k : Nat} {code : Int} (hi : i ≤ l.length) (h : (ownT l i k code).isSome = false) : code ∉ (l.getD i g0).ms.take k ∧ ∀ j, j < i → code ∉ (l.getD j g0).ms := by
  unfold ownT at h
  by_cases e : code ∈ (l.getD i g0).ms.take k
  · rw [if_pos (by simpa using e)] at h; cases h
  · rw [if_neg (by simpa using e)] at h
    refine ⟨e, fun j hj hc => ?_⟩
    have hid : owner (l.take i) code = none := by simpa using h
    have := owner_none hid j (by rw [List.length_take]; omega)
    rw [getD_take (by omega) hi] at this
    exact this hc
theorem MsOk.lt {ms : List Int} {k : Nat} (h : MsOk ms k) : ∀ {p q : Nat}, p < q → q < k → ms.getD p 0 < ms.getD q 0 := by
  intro p q hpq hq
  induction q with
  | zero => omega
  | succ q ih =>
    have h1 := h.asc q hq
    rcases Nat.lt_or_ge p q with h2 | h2
    · have := ih h2 (by omega); omega
    · obtain rfl : p = q := by omega
      exact h1
theorem MsOk.next {ms : List Int} {k : Nat} (h : MsOk ms k) (h1 : 1 ≤ ms.getD k 0 ∧ ms.getD k 0 ≤ 39999) (h2 : ∀ q, q + 1 = k → ms.getD q 0 < ms.getD k 0) : MsOk ms (k + 1) :=
  ⟨fun q hq => by
    rcases Nat.lt_succ_iff_lt_or_eq.1 hq with h3 | h3
    · exact h.rng q h3
    · subst h3; exact h1, fun q hq => by
    rcases Nat.lt_succ_iff_lt_or_eq.1 hq with h3 | h3
    · exact h.asc q h3
    · rw [h3]; exact h2 q h3⟩
theorem MsOk.zero (ms : List Int) : MsOk ms 0 := ⟨fun q hq => by omega, fun q hq => by omega⟩
theorem Pre.zero (l : List Grp) : Pre l 0 := ⟨fun q hq => by omega, fun q hq => by omega, fun q hq => by omega, fun q hq => by omega⟩
/-- one group more -/
theorem Pre.next {l : List Grp} {i : Nat} (h : Pre l i) (h1 : 0 ≤ (l.getD i g0).id ∧ (l.getD i g0).id ≤ 999) (h2 : ∀ j, j + 1 = i → (l.getD j g0).id < (l.getD i g0).id) (h3 : MsOk (l.getD i g0).ms (l.getD i g0).ms.length)
    (h4 : ∀ q, q < (l.getD i g0).ms.length → ∀ j', j' < i → (l.getD i g0).ms.getD q 0 ∉ (l.getD j' g0).ms) : Pre l (i + 1) :=
  ⟨fun j hj => by
    rcases Nat.lt_succ_iff_lt_or_eq.1 hj with h5 | h5
    · exact h.idr j h5
    · subst h5; exact h1, fun j hj => by
    rcases Nat.lt_succ_iff_lt_or_eq.1 hj with h5 | h5
    · exact h.asc j h5
    · rw [h5]; exact h2 j h5, fun j hj => by
    rcases Nat.lt_succ_iff_lt_or_eq.1 hj with h5 | h5
    · exact h.mem j h5
    · subst h5; exact h3, fun j hj => by
    rcases Nat.lt_succ_iff_lt_or_eq.1 hj with h5 | h5
    · exact h.apart j h5
    · subst h5
      intro j' hj' c hc
      obtain ⟨q, hq, e⟩ := ex_getD 0 hc
      rw [← e]
      exact h4 q hq j' hj'⟩
/-- why a group makes the list invalid -/
theorem Valid.not_twice {l : List Grp} (h : Valid l) {i k : Nat} (hi : i < l.length) (hk : k < (l.getD i g0).ms.length) : (ownT l i k ((l.getD i g0).ms.getD k 0)).isSome = false := by
  cases hs : (ownT l i k ((l.getD i g0).ms.getD k 0)).isSome with
  | false => rfl
  | true =>
    rcases ownT_some (by omega) hs with h1 | ⟨j, hj, h1⟩
    · obtain ⟨q, hq, e⟩ := ex_getD 0 h1
      rw [List.length_take] at hq
      rw [getD_take (by omega) (by omega)] at e
      have := (h.pre.mem i hi).lt (show q < k by omega) hk
      omega
    · exact absurd h1 (h.pre.apart i hi j hj _ (mem_getD hk))
/-! up -/
theorem okUp_neg (l : List Grp) (n : Nat) : okUp l n (-1) = true := by unfold okUp; rw [if_pos rfl]
theorem okUp_zero {l : List Grp} {id : Int} (h : id ≠ -1) : okUp l 0 id = false := by unfold okUp; rw [if_neg h]
theorem okUp_succ {l : List Grp} {n : Nat} {id : Int} (h : id ≠ -1) : okUp l (n + 1) id = ((find l id).isSome && okUp l n (ofI l id)) := by
  conv => lhs; unfold okUp
  rw [if_neg h]
/-- the k-th group from one on, outward -/
def nth (l : List Grp) (id : Int) : Nat → Int
  | 0 => id
  | k + 1 => ofI l (nth l id k)
theorem up_neg (l : List Grp) (n : Nat) : up l n (-1) = [] := by cases n <;> simp [up]
theorem up_succ {l : List Grp} {n : Nat} {id : Int} (h : id ≠ -1) : up l (n + 1) id = id :: up l n (ofI l id) := by rw [up, if_neg h]
theorem up_more {l : List Grp} : ∀ {n m : Nat} {id : Int}, okUp l n id = true → n ≤ m → up l m id = up l n id
  | 0, m, id, h, _ => by
    have e : id = -1 := by
      by_cases e : id = -1
      · exact e
      · rw [okUp_zero e] at h; cases h
    rw [e, up_neg, up_neg]
  | n + 1, 0, id, _, hm => by omega
  | n + 1, m + 1, id, h, hm => by
    by_cases e : id = -1
    · rw [e, up_neg, up_neg]
    · rw [okUp_succ e, Bool.and_eq_true] at h
      rw [up_succ e, up_succ e, up_more h.2 (by omega)]
theorem okUp_mono {l : List Grp} : ∀ {n m : Nat} {id : Int}, okUp l n id = true → n ≤ m → okUp l m id = true
  | 0, m, id, h, _ => by
    by_cases e : id = -1
    · rw [e]; exact okUp_neg _ _
    · rw [okUp_zero e] at h; cases h
  | n + 1, 0, id, _, hm => by omega
  | n + 1, m + 1, id, h, hm => by
    by_cases e : id = -1
    · rw [e]; exact okUp_neg _ _
    · rw [okUp_succ e, Bool.and_eq_true] at h ⊢
      exact ⟨h.1, okUp_mono h.2 (by omega)⟩
theorem up_len (l : List Grp) : ∀ (n : Nat) (id : Int), (up l n id).length ≤ n
  | 0, _ => by simp [up]
  | n + 1, id => by
    by_cases e : id = -1
    · rw [e, up_neg]; simp
    · rw [up_succ e, List.length_cons]; have := up_len l n (ofI l id); omega
end Go.Proofs.Ytebfenkjipaedaa.Gp
