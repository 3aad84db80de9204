/- Groups that integers determine: why they are valid; the reference's walk outward. Plain. The reference's outward and Made. -/
import Derived.Test.YtebfenkjipaedaaGrpRef1
namespace Go.Proofs.Ytebfenkjipaedaa.Gp
theorem ofI_of {l : List Grp} {id : Int} {g : Grp} (h : find l id = some g) : ofI l id = g.of := by unfold ofI; rw [h]
/-- all groups around are there -/
def Closed (l : List Grp) : Prop := ∀ x g, find l x = some g → g.of = -1 ∨ (find l g.of).isSome = true
theorem outR_neg {l : List Grp} (h : find l (-1) = none) (n : Nat) : outR l n (-1) = [] := by
  cases n with
  | zero => rfl
  | succ n => unfold outR; rw [h]
theorem outR_some {l : List Grp} {n : Nat} {id : Int} {g : Grp} (h : find l id = some g) : outR l (n + 1) id = id :: outR l n g.of := by
  conv => lhs; unfold outR
  rw [h]
  show g.id :: _ = _
  rw [(find_some h).2]
theorem outR_up {l : List Grp} (hn : find l (-1) = none) : ∀ (n : Nat) (id : Int), okUp l n id = true → ∀ m, n ≤ m → outR l m id = up l n id
  | 0, id, h, m, _ => by
    have e : id = -1 := by
      by_cases e : id = -1
      · exact e
      · rw [okUp_zero e] at h; cases h
    rw [e, outR_neg hn, up_neg]
  | n + 1, id, h, m, hm => by
    by_cases e : id = -1
    · rw [e, outR_neg hn, up_neg]
    · rw [okUp_succ e, Bool.and_eq_true] at h
      obtain ⟨g, hg⟩ := Option.isSome_iff_exists.1 h.1
      obtain ⟨m, rfl⟩ : ∃ m', m = m' + 1 := ⟨m - 1, by omega⟩
      rw [outR_some hg, up_succ e, ofI_of hg]
      rw [ofI_of hg] at h
      rw [outR_up hn n g.of h.2 m (by omega)]
theorem okUp_outR {l : List Grp} (hn : find l (-1) = none) (hc : Closed l) : ∀ (n : Nat) (id : Int), id = -1 ∨ (find l id).isSome = true → (outR l (n + 1) id).length ≤ n → okUp l n id = true
  | n, id, .inl e, _ => by rw [e]; exact okUp_neg _ _
  | 0, id, .inr h, hl => by
    obtain ⟨g, hg⟩ := Option.isSome_iff_exists.1 h
    rw [outR_some hg] at hl
    simp at hl
  | n + 1, id, .inr h, hl => by
    have e : id ≠ -1 := fun e => by rw [e, hn] at h; cases h
    obtain ⟨g, hg⟩ := Option.isSome_iff_exists.1 h
    rw [outR_some hg, List.length_cons] at hl
    rw [okUp_succ e, h, Bool.true_and, ofI_of hg]
    exact okUp_outR hn hc n g.of (hc _ _ hg) (by omega)
theorem okUp_congr {l l' : List Grp} (h : ∀ x, (find l x).isSome = (find l' x).isSome ∧ ofI l x = ofI l' x) : ∀ (n : Nat) (id : Int), okUp l n id = okUp l' n id
  | 0, id => by
    by_cases e : id = -1
    · rw [e, okUp_neg, okUp_neg]
    · rw [okUp_zero e, okUp_zero e]
  | n + 1, id => by
    by_cases e : id = -1
    · rw [e, okUp_neg, okUp_neg]
    · rw [okUp_succ e, okUp_succ e, (h id).1, (h id).2, okUp_congr h n]
/-- groups that integers determine, i codes given -/
structure MadeP (L : List Grp) (i : Nat) : Prop where
  le : L.length ≤ 14
  id : ∀ j, j < L.length → (L.getD j g0).id = 3 * (j : Int)
  of : ∀ j, j < L.length → (L.getD j g0).of = -1 ∨ ∃ j' : Nat, j' < j ∧ (L.getD j g0).of = 3 * (j' : Int)
  ok : ∀ j, j < L.length → okUp L 12 (3 * (j : Int)) = true
  ms : ∀ j, j < L.length → MsOk (L.getD j g0).ms (L.getD j g0).ms.length
  top : ∀ j, j < L.length → ∀ c ∈ (L.getD j g0).ms, c ≤ 10 * (i : Int)
  len : ∀ j, j < L.length → (L.getD j g0).ms.length ≤ i
  apart : ∀ j j', j < L.length → j' < L.length → j ≠ j' → ∀ c ∈ (L.getD j g0).ms, c ∉ (L.getD j' g0).ms
theorem made_find {L : List Grp} (h : ∀ j, j < L.length → (L.getD j g0).id = 3 * (j : Int)) {j : Nat} (hj : j < L.length) : find L (3 * (j : Int)) = some (L.getD j g0) := by
  unfold find
  rw [List.find?_eq_some_iff_getElem]
  refine ⟨by rw [h j hj]; simp, j, hj, (getD_eq hj).symm, fun q hq => ?_⟩
  have := h q (by omega)
  rw [getD_eq (by omega)] at this
  rw [this]
  simp
  omega
theorem made_none {L : List Grp} (h : ∀ j, j < L.length → (L.getD j g0).id = 3 * (j : Int)) {x : Int} (hx : ∀ j : Nat, j < L.length → x ≠ 3 * (j : Int)) : find L x = none := by
  unfold find
  rw [List.find?_eq_none]
  intro g hg
  obtain ⟨j, hj, e⟩ := ex_getD g0 hg
  rw [← e, h j hj]
  simp
  exact fun e => hx j hj e.symm
theorem made_neg {L : List Grp} (h : ∀ j, j < L.length → (L.getD j g0).id = 3 * (j : Int)) : find L (-1) = none := made_none h (fun j _ => by omega)
theorem made_closed {L : List Grp} (h : ∀ j, j < L.length → (L.getD j g0).id = 3 * (j : Int)) (ho : ∀ j, j < L.length → (L.getD j g0).of = -1 ∨ ∃ j' : Nat, j' < j ∧ (L.getD j g0).of = 3 * (j' : Int)) : Closed L := fun x g hg => by
  obtain ⟨j, hj, e⟩ := ex_getD g0 (find_some hg).1
  rcases ho j hj with h1 | ⟨j', h1, h2⟩
  · left; rw [← e]; exact h1
  · right; rw [← e, h2, made_find h (by omega)]; rfl
/-- the list grows: the old ones keep what is around them -/
theorem okUp_grow {L : List Grp} {g : Grp} (h : ∀ j, j < L.length → (L.getD j g0).id = 3 * (j : Int)) (ho : ∀ j, j < L.length → (L.getD j g0).of = -1 ∨ ∃ j' : Nat, j' < j ∧ (L.getD j g0).of = 3 * (j' : Int)) :
    ∀ (n j : Nat), j < L.length → okUp (L ++ [g]) n (3 * (j : Int)) = okUp L n (3 * (j : Int))
  | 0, j, _ => by rw [okUp_zero (by omega), okUp_zero (by omega)]
  | n + 1, j, hj => by
    have h1 := made_find h hj
    have h2 : find (L ++ [g]) (3 * (j : Int)) = some (L.getD j g0) := by
      unfold find at h1 ⊢
      rw [List.find?_append, h1]; rfl
    rw [okUp_succ (by omega), okUp_succ (by omega), h1, h2, ofI_of h1, ofI_of h2]
    congr 1
    rcases ho j hj with e | ⟨j', hj', e⟩
    · rw [e, okUp_neg, okUp_neg]
    · rw [e]; exact okUp_grow h ho n j' (by omega)
theorem getD_left {α : Type} {l m : List α} {d : α} {i : Nat} (h : i < l.length) : (l ++ m).getD i d = l.getD i d := by
  rw [getD_eq (by rw [List.length_append]; omega), getD_eq h, List.getElem_append_left h]
theorem getD_last {α : Type} {l : List α} {x d : α} : (l ++ [x]).getD l.length d = x := by
  rw [getD_eq (by simp)]; simp
theorem MadeP.zero : MadeP [] 0 := ⟨by simp, fun j hj => by simp at hj, fun j hj => by simp at hj, fun j hj => by simp at hj, fun j hj => by simp at hj, fun j hj => by simp at hj, fun j hj => by simp at hj, fun j j' hj => by simp at hj⟩
/-- one group more -/
theorem MadeP.push {L : List Grp} (h : MadeP L 0) (hl : L.length < 14) {of : Int} {v : Value} (ho : of = -1 ∨ ∃ j' : Nat, j' < L.length ∧ of = 3 * (j' : Int)) (hok : okUp (L ++ [⟨3 * (L.length : Int), of, v, []⟩]) 12 (3 * (L.length : Int)) = true) : MadeP (L ++ [⟨3 * (L.length : Int), of, v, []⟩]) 0 := by
  have hcase : ∀ {P : Nat → Grp → Prop}, (∀ j, j < L.length → P j (L.getD j g0)) → P L.length ⟨3 * (L.length : Int), of, v, []⟩ → ∀ j, j < (L ++ [(⟨3 * (L.length : Int), of, v, []⟩ : Grp)]).length → P j ((L ++ [(⟨3 * (L.length : Int), of, v, []⟩ : Grp)]).getD j g0) := fun {P} h1 h2 j hj => by
    rw [List.length_append, List.length_singleton] at hj
    rcases Nat.lt_or_ge j L.length with h3 | h3
    · rw [getD_left h3]; exact h1 j h3
    · obtain rfl : j = L.length := by omega
      rw [getD_last]; exact h2
  refine ⟨by rw [List.length_append]; simp; omega, hcase (P := fun j g => g.id = 3 * (j : Int)) h.id rfl, hcase (P := fun j g => g.of = -1 ∨ ∃ j' : Nat, j' < j ∧ g.of = 3 * (j' : Int)) h.of ho, fun j hj => ?_, hcase (P := fun _ g => MsOk g.ms g.ms.length) h.ms (MsOk.zero _), hcase (P := fun _ g => ∀ c ∈ g.ms, c ≤ 10 * ((0 : Nat) : Int)) h.top (fun c hc => by cases hc), hcase (P := fun _ g => g.ms.length ≤ 0) h.len (by simp), fun j j' hj hj' _ c hc => ?_⟩
  · rw [List.length_append, List.length_singleton] at hj
    rcases Nat.lt_or_ge j L.length with h3 | h3
    · rw [okUp_grow h.id h.of _ _ h3]; exact h.ok j h3
    · obtain rfl : j = L.length := by omega
      exact hok
  · have hz := hcase (P := fun _ g => g.ms.length ≤ 0) h.len (by simp) j hj
    have : ((L ++ [(⟨3 * (L.length : Int), of, v, []⟩ : Grp)]).getD j g0).ms = [] := List.eq_nil_of_length_eq_zero (by omega)
    rw [this] at hc; cases hc
/-- the new group has few around it, or none -/
theorem made_ok {L : List Grp} (h : MadeP L 0) {of : Int} {v : Value} (ho : of = -1 ∨ ∃ j' : Nat, j' < L.length ∧ of = 3 * (j' : Int)) (hle : (outR (L ++ [⟨3 * (L.length : Int), of, v, []⟩]) 13 (3 * (L.length : Int))).length ≤ 12) : okUp (L ++ [⟨3 * (L.length : Int), of, v, []⟩]) 12 (3 * (L.length : Int)) = true := by
  have hid : ∀ j, j < (L ++ [(⟨3 * (L.length : Int), of, v, []⟩ : Grp)]).length → ((L ++ [(⟨3 * (L.length : Int), of, v, []⟩ : Grp)]).getD j g0).id = 3 * (j : Int) := fun j hj => by
    rw [List.length_append, List.length_singleton] at hj
    rcases Nat.lt_or_ge j L.length with h3 | h3
    · rw [getD_left h3]; exact h.id j h3
    · obtain rfl : j = L.length := by omega
      rw [getD_last]
  have hof : ∀ j, j < (L ++ [(⟨3 * (L.length : Int), of, v, []⟩ : Grp)]).length → ((L ++ [(⟨3 * (L.length : Int), of, v, []⟩ : Grp)]).getD j g0).of = -1 ∨ ∃ j' : Nat, j' < j ∧ ((L ++ [(⟨3 * (L.length : Int), of, v, []⟩ : Grp)]).getD j g0).of = 3 * (j' : Int) := fun j hj => by
    rw [List.length_append, List.length_singleton] at hj
    rcases Nat.lt_or_ge j L.length with h3 | h3
    · rw [getD_left h3]; exact h.of j h3
    · obtain rfl : j = L.length := by omega
      rw [getD_last]; exact ho
  have hf : find (L ++ [(⟨3 * (L.length : Int), of, v, []⟩ : Grp)]) (3 * (L.length : Int)) = some _ := made_find hid (by simp)
  exact okUp_outR (made_neg hid) (made_closed hid hof) 12 _ (.inr (by rw [hf]; rfl)) hle
theorem made_ok_neg {L : List Grp} (h : MadeP L 0) {v : Value} : okUp (L ++ [⟨3 * (L.length : Int), -1, v, []⟩]) 12 (3 * (L.length : Int)) = true := by
  refine made_ok h (.inl rfl) ?_
  have hid : ∀ j, j < (L ++ [(⟨3 * (L.length : Int), -1, v, []⟩ : Grp)]).length → ((L ++ [(⟨3 * (L.length : Int), -1, v, []⟩ : Grp)]).getD j g0).id = 3 * (j : Int) := fun j hj => by
    rw [List.length_append, List.length_singleton] at hj
    rcases Nat.lt_or_ge j L.length with h3 | h3
    · rw [getD_left h3]; exact h.id j h3
    · obtain rfl : j = L.length := by omega
      rw [getD_last]
  have hf := made_find hid (show L.length < _ by simp)
  rw [getD_last] at hf
  rw [outR_some hf, outR_neg (made_neg hid)]
  simp
/-- a code is given to a group -/
theorem MadeP.give {L : List Grp} {i : Nat} (h : MadeP L i) (hi : i < 16) {k : Nat} (hk : k < L.length) (v : Value) : MadeP (L.set k { L.getD k g0 with v := v, ms := (L.getD k g0).ms ++ [10 * ((i : Int) + 1)] }) (i + 1) := by
  obtain ⟨g, hg⟩ : ∃ g, L.getD k g0 = g := ⟨_, rfl⟩
  rw [hg]
  have hget : ∀ j, j < L.length → (L.set k { g with v := v, ms := g.ms ++ [10 * ((i : Int) + 1)] }).getD j g0 = if j = k then { g with v := v, ms := g.ms ++ [10 * ((i : Int) + 1)] } else L.getD j g0 := fun j hj => by
    rw [getD_eq (by rw [List.length_set]; exact hj), List.getElem_set]
    by_cases e : k = j
    · rw [if_pos e, if_pos e.symm]
    · rw [if_neg e, if_neg (Ne.symm e), getD_eq hj]
  have hgid : g.id = 3 * (k : Int) := by rw [← hg]; exact h.id k hk
  have hids : ∀ j, j < (L.set k { g with v := v, ms := g.ms ++ [10 * ((i : Int) + 1)] }).length → ((L.set k { g with v := v, ms := g.ms ++ [10 * ((i : Int) + 1)] }).getD j g0).id = 3 * (j : Int) := fun j hj => by
    rw [List.length_set] at hj
    rw [hget j hj]
    split
    · rename_i e; subst e; exact hgid
    · exact h.id j hj
  have hsame : ∀ x, (find (L.set k { g with v := v, ms := g.ms ++ [10 * ((i : Int) + 1)] }) x).isSome = (find L x).isSome ∧ ofI (L.set k { g with v := v, ms := g.ms ++ [10 * ((i : Int) + 1)] }) x = ofI L x := fun x => by
    by_cases e : ∃ j : Nat, j < L.length ∧ x = 3 * (j : Int)
    · obtain ⟨j, hj, rfl⟩ := e
      have h1 := made_find h.id hj
      have h2 := made_find hids (j := j) (by rw [List.length_set]; exact hj)
      rw [h1, h2, ofI_of h1, ofI_of h2, hget j hj]
      refine ⟨rfl, ?_⟩
      split
      · rename_i e; subst e; rw [hg]
      · rfl
    · have h1 := made_none h.id (x := x) (fun j hj ex => e ⟨j, hj, ex⟩)
      have h2 := made_none hids (x := x) (fun j hj ex => e ⟨j, by rwa [List.length_set] at hj, ex⟩)
      unfold ofI
      rw [h1, h2]
      exact ⟨rfl, rfl⟩
  have htop := h.top
  have hgt : ∀ c ∈ g.ms, c ≤ 10 * (i : Int) := by rw [← hg]; exact h.top k hk
  have hgm : MsOk g.ms g.ms.length := by rw [← hg]; exact h.ms k hk
  refine ⟨by rw [List.length_set]; exact h.le, hids, fun j hj => ?_, fun j hj => ?_, fun j hj => ?_, fun j hj => ?_, fun j hj => ?_, fun j j' hj hj' hne c hc => ?_⟩
  · rw [List.length_set] at hj
    rw [hget j hj]
    split
    · rename_i e; subst e; have := h.of j hk; rw [hg] at this; exact this
    · exact h.of j hj
  · rw [List.length_set] at hj
    rw [okUp_congr hsame]; exact h.ok j hj
  · rw [List.length_set] at hj
    rw [hget j hj]
    split
    · show MsOk (g.ms ++ [_]) (g.ms ++ [_]).length
      refine ⟨fun q hq => ?_, fun q hq => ?_⟩
      · rw [List.length_append, List.length_singleton] at hq
        rcases Nat.lt_or_ge q g.ms.length with h3 | h3
        · rw [getD_left h3]; exact hgm.rng q h3
        · obtain rfl : q = g.ms.length := by omega
          rw [getD_last]; omega
      · rw [List.length_append, List.length_singleton] at hq
        rcases Nat.lt_or_ge (q + 1) g.ms.length with h3 | h3
        · rw [getD_left h3, getD_left (by omega)]; exact hgm.asc q h3
        · obtain e : q + 1 = g.ms.length := by omega
          rw [e, getD_last, getD_left (by omega)]
          have := hgt _ (mem_getD (d := 0) (show q < g.ms.length by omega))
          omega
    · exact h.ms j hj
  · rw [List.length_set] at hj
    rw [hget j hj]
    split
    · intro c hc
      rcases List.mem_append.1 hc with h1 | h1
      · have := hgt c h1; omega
      · rw [List.mem_singleton.1 h1]; omega
    · intro c hc
      have := h.top j hj c hc; omega
  · rw [List.length_set] at hj
    rw [hget j hj]
    split
    · show (g.ms ++ [_]).length ≤ i + 1
      have := h.len k hk
      rw [hg] at this
      rw [List.length_append, List.length_singleton]; omega
    · have := h.len j hj; omega
  · rw [List.length_set] at hj hj'
    rw [hget j hj] at hc
    rw [hget j' hj']
    by_cases e : j = k
    · rw [if_pos e] at hc
      rw [if_neg (by omega)]
      rcases List.mem_append.1 hc with h1 | h1
      · have := h.apart k j' hk hj' (by omega) c (by rw [hg]; exact h1)
        exact this
      · intro h2
        have := h.top j' hj' c h2
        rw [List.mem_singleton.1 h1] at this; omega
    · rw [if_neg e] at hc
      by_cases e' : j' = k
      · rw [if_pos e']
        intro h2
        rcases List.mem_append.1 h2 with h3 | h3
        · exact h.apart j k hj hk e c hc (by rw [hg]; exact h3)
        · have := h.top j hj c hc
          rw [List.mem_singleton.1 h3] at this; omega
      · rw [if_neg e']
        exact h.apart j j' hj hj' hne c hc
theorem MadeP.more {L : List Grp} {i : Nat} (h : MadeP L i) : MadeP L (i + 1) :=
  ⟨h.le, h.id, h.of, h.ok, h.ms, fun j hj c hc => by have := h.top j hj c hc; omega, fun j hj => by have := h.len j hj; omega, h.apart⟩
theorem MadeP.valid {L : List Grp} {i : Nat} (h : MadeP L i) : Valid L :=
  ⟨by have := h.le; omega, ⟨fun j hj => by rw [h.id j hj]; have := h.le; omega, fun j hj => by rw [h.id j (by omega), h.id (j + 1) hj]; omega, h.ms, fun j hj j' hj' c hc => h.apart j j' hj (by omega) (by omega) c hc⟩, fun j hj => by rw [h.id j hj]; exact h.ok j hj⟩
theorem Valid.sized {l : List Grp} (h : Valid l) (hl : ∀ j, j < l.length → (l.getD j g0).ms.length ≤ 1000) : Sized l := by
  refine ⟨by have := h.len; omega, fun j hj => ?_, fun j hj => ?_, fun j hj q hq => ?_, hl⟩
  · have := h.pre.idr j hj; unfold I64; omega
  · have hc := h.chain j hj
    have hid := h.pre.idr j hj
    have hf := find_getD (h.pre) (Nat.le_refl _) hj
    rw [List.take_length] at hf
    rw [show (12 : Nat) = 11 + 1 from rfl, okUp_succ (by omega), Bool.and_eq_true, ofI_of hf] at hc
    by_cases e : (l.getD j g0).of = -1
    · rw [e]; exact ⟨by decide, by decide⟩
    · rw [show (11 : Nat) = 10 + 1 from rfl, okUp_succ e, Bool.and_eq_true] at hc
      obtain ⟨g, hg⟩ := Option.isSome_iff_exists.1 hc.2.1
      obtain ⟨h1, h2⟩ := find_some hg
      obtain ⟨q, hq, hqe⟩ := ex_getD g0 h1
      have := h.pre.idr q hq
      rw [hqe, h2] at this
      unfold I64; omega
  · have := (h.pre.mem j hj).rng q hq; unfold I64; omega
theorem MadeP.sized {L : List Grp} {i : Nat} (h : MadeP L i) (hi : i ≤ 16) : Sized L := h.valid.sized (fun j hj => by have := h.len j hj; omega)
end Go.Proofs.Ytebfenkjipaedaa.Gp
namespace Go.Proofs.Ytebfenkjipaedaa.Gr
open Go.RowKit Gp Go.Sort
attribute [local go_sem] Oper.semAt_some
def lenS : Value → Nat
  | .slice _ n _ => n
  | _ => 0
set_option maxRecDepth 100000 in
set_option maxHeartbeats 4000000 in
theorem routward_any (A : Option Addr) (c : Nat) (l : List Grp) (id : Int) (w : World) (h : GrpsAt w A l) (hl : l.length ≤ 1000) :
    Calls Try.prog 36 #[.slice A l.length c, .int .i64 id] w (OwnQ (outR l 13 id) w) := by
  obtain ⟨j0, hj0, e0, e1, e2⟩ := info_parts int_info1
  have H := Lib.hid h
  have hll : (l.length : Int) ≤ 1000 := by omega
  have HF := Lib.hid (fun W x (hB : Below w.heap.size w W) => find_any A c l x W (h.then_ hB) hl)
  clear h
  go_enter Try.func36, Try.ntmps36
  go_wp2_with fail
  refine (HF.out _ _ (Below.refl _ _)).mono ?_
  rintro e w1 ⟨rfl, rfl⟩
  go_wp2_with fail
  go_loopw [5, 6] (fun u i wr => ∃ (k : Nat) (x : Int) (acc : List Int), k ≤ 13 ∧ acc.length = k ∧ i = .int .i64 (idxI l x) ∧ wr.ownsRow w.heap.size 3 1 u k (ivs acc) ∧ outR l 13 id = acc ++ outR l (13 - k) x ∧ Below w.heap.size w wr) (fun u _ _ => 13 - lenS u)
  case atStart => exact ⟨0, id, [], by omega, rfl, rfl, World.ownsRow_nil _ _ _ _, rfl, Below.refl _ _⟩
  case round =>
    obtain ⟨k, x, acc, hk, ha, rfl, hown, ho, hB⟩ := hrel
    have HA := Lib.hid ha
    have HO := Lib.hid ho
    have HB := Lib.hid hB
    have HOW := Lib.hid hown
    obtain ⟨Au, cu, rfl, hcu⟩ := own_slice hown
    clear ha ho hB hown
    have hk0 : (0 : Int) ≤ (k : Int) := by omega
    rcases idxI_cases l x with ⟨hi, hf⟩ | ⟨q, hq, hi, hx, hf⟩
    · rw [hi]
      have HE := Lib.hid (show outR l 13 id = acc by
        rw [HO.out]
        have : outR l (13 - k) x = [] := by
          cases 13 - k with
          | zero => rfl
          | succ n => unfold outR; rw [hf]
        rw [this, List.append_nil])
      clear hi hf
      go_wp2_with fail
      go_ret
      exact ⟨_, rfl, by rw [HE.out, HA.out]; exact HOW.out, HB.out⟩
    · rw [hi]
      have hq0 : (0 : Int) ≤ (q : Int) := by omega
      have hql : (q : Int) < (l.length : Int) := by omega
      by_cases hk12 : k ≤ 12
      · have hkI : (k : Int) ≤ 12 := by omega
        obtain ⟨⟨b, o, rfl, hxx⟩, _⟩ := (H.out.then_ HB.out) q hq
        obtain ⟨g, hg⟩ : ∃ g, l.getD q g0 = g := ⟨_, rfl⟩
        rw [hg] at hxx hx hf
        have y0 := hxx.id
        have y1 := hxx.of
        rw [hx] at y0
        have HS := Lib.hid (show outR l 13 id = (acc ++ [x]) ++ outR l (13 - (k + 1)) g.of by
          rw [HO.out, show 13 - k = (13 - (k + 1)) + 1 by omega, outR_some hf, List.append_assoc]; rfl)
        have Y1 := Lib.hid y1
        have hbw : b < w.heap.size := by
          obtain ⟨⟨b2, o2, hA2, hx2⟩, _⟩ := H.out q hq
          have : b = b2 ∧ o = o2 := by simpa using hA2
          rw [this.1]
          exact lt_size hx2.id
        have hbl := lt_size y1
        have hbs := HB.out.size
        clear hxx hx hf hg hi
        go_wp2_with (at_builtin; refine wpList_append1 rfl _ _ 23 rfl w.heap.size 3 j0 _ 1 8 Try.underlying23 hj0 e0 e1 e2 rfl (by omega) (by omega) (.slice Au k cu) k _ rfl HOW.out #[.int .i64 x] rfl rfl (by simp [Value.oneCell']) (by omega) hbs ?_; intro g' c' w3 own' k' n'; have OW := Lib.hid own'; have KW := Lib.hid k'; have y2 := k'.cell Y1.out (fun e => by have h4 := (HOW.out.lt _ (own_mem e)).1; dsimp only at h4; omega); clear own' k' n')
        have HB3 := Lib.hid (KW.out.below_next HB.out hbs (fun q hq => (HOW.out.lt q (own_mem hq)).1))
        refine (HF.out _ _ HB3.out).mono ?_
        rintro e w4 ⟨rfl, rfl⟩
        go_wp2_with fail
        refine ⟨⟨k + 1, g.of, acc ++ [x], by omega, by rw [List.length_append, HA.out]; rfl, rfl, ?_, HS.out, HB3.out⟩, ?_⟩
        · rw [ivs_append]; exact OW.out
        · simp [lenS]; omega
      · have hkI : ¬ (k : Int) ≤ 12 := by omega
        have HE := Lib.hid (show outR l 13 id = acc by
          rw [HO.out, show 13 - k = 0 by omega]; simp [outR])
        clear hi hf
        go_wp2_with fail
        go_ret
        exact ⟨_, rfl, by rw [HE.out, HA.out]; exact HOW.out, HB.out⟩
end Go.Proofs.Ytebfenkjipaedaa.Gr
