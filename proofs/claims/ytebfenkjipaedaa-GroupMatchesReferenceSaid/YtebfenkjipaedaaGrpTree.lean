/- The forest of groups: what lies around a group, along Of; what lies below. Plain. -/
import Derived.Test.YtebfenkjipaedaaGrpBelow
namespace Go.Proofs.Ytebfenkjipaedaa.Gr
open Go.RowKit Gp Go.Sort
/-- along Of -/
theorem up_chain {l : List Grp} : ∀ (n : Nat) (id : Int), okUp l n id = true → ∀ j, j < (up l n id).length → (find l ((up l n id).getD j 0)).isSome = true ∧ (up l n id).getD j 0 ≠ -1 ∧ ofI l ((up l n id).getD j 0) = (if j + 1 < (up l n id).length then (up l n id).getD (j + 1) 0 else -1)
  | 0, id, _, j, hj => by simp [up] at hj
  | n + 1, id, h, j, hj => by
    by_cases e : id = -1
    · rw [e, up_neg] at hj; simp at hj
    · rw [okUp_succ e, Bool.and_eq_true] at h
      have hu := up_succ (l := l) (n := n) e
      rw [hu] at hj ⊢
      have ih := up_chain n (ofI l id) h.2
      cases j with
      | zero =>
        refine ⟨h.1, e, ?_⟩
        show ofI l id = _
        by_cases e2 : ofI l id = -1
        · rw [e2, up_neg]; simp
        · cases n with
          | zero => rw [okUp_zero e2] at h; cases h.2
          | succ m => rw [up_succ e2]; simp
      | succ j =>
        rw [List.length_cons] at hj
        have := ih j (by omega)
        simp only [List.getD_cons_succ, List.length_cons]
        refine ⟨this.1, this.2.1, this.2.2.trans ?_⟩
        by_cases h3 : j + 1 < (up l n (ofI l id)).length
        · rw [if_pos h3, if_pos (by omega)]
        · rw [if_neg h3, if_neg (by omega)]
/-- from a later one on, the same -/
theorem up_drop {l : List Grp} : ∀ (n : Nat) (id : Int), okUp l n id = true → ∀ j, j < (up l n id).length → okUp l (n - j) ((up l n id).getD j 0) = true ∧ (up l n id).drop j = up l (n - j) ((up l n id).getD j 0)
  | 0, id, _, j, hj => by simp [up] at hj
  | n + 1, id, h, j, hj => by
    by_cases e : id = -1
    · rw [e, up_neg] at hj; simp at hj
    · have hu := up_succ (l := l) (n := n) e
      cases j with
      | zero =>
        rw [List.drop_zero, Nat.sub_zero]
        have : (up l (n + 1) id).getD 0 0 = id := by rw [hu]; rfl
        rw [this]
        exact ⟨h, rfl⟩
      | succ j =>
        rw [okUp_succ e, Bool.and_eq_true] at h
        rw [hu] at hj ⊢
        rw [List.length_cons] at hj
        have := up_drop n (ofI l id) h.2 j (by omega)
        rw [List.drop_succ_cons, List.getD_cons_succ, show n + 1 - (j + 1) = n - j by omega]
        exact this
/-- no group lies around itself -/
theorem up_once {l : List Grp} {n : Nat} {id : Int} (h : okUp l n id = true) {i j : Nat} (hi : i < (up l n id).length) (hj : j < (up l n id).length) (e : (up l n id).getD i 0 = (up l n id).getD j 0) : i = j := by
  have key : ∀ {i j : Nat}, i ≤ j → i < (up l n id).length → j < (up l n id).length → (up l n id).getD i 0 = (up l n id).getD j 0 → i = j := fun {i j} hij hi hj e => by
    obtain ⟨a1, a2⟩ := up_drop n id h i hi
    obtain ⟨b1, b2⟩ := up_drop n id h j hj
    have hb : (up l n id).drop j = up l (n - i) ((up l n id).getD j 0) := b2.trans (up_more b1 (by omega)).symm
    rw [← e, ← a2] at hb
    have := congrArg List.length hb
    rw [List.length_drop, List.length_drop] at this
    omega
  rcases Nat.le_total i j with h1 | h1
  · exact key h1 hi hj e
  · exact (key h1 hj hi e.symm).symm
/-- a group that is there has a chain -/
theorem valid_up {l : List Grp} (h : Valid l) {g : Grp} (hg : g ∈ l) : okUp l 12 g.id = true ∧ 0 < (up l 12 g.id).length ∧ (up l 12 g.id).getD 0 0 = g.id ∧ g.id ≠ -1 := by
  obtain ⟨j, hj, e⟩ := ex_getD g0 hg
  have h1 := h.chain j hj
  have h2 := h.pre.idr j hj
  rw [e] at h1 h2
  have hne : g.id ≠ -1 := by omega
  rw [show (12 : Nat) = 11 + 1 from rfl, up_succ hne]
  exact ⟨h1, by simp, rfl, hne⟩
theorem owner_member {l : List Grp} (h : Valid l) {k : Nat} (hk : k < l.length) {c : Int} (hc : c ∈ (l.getD k g0).ms) : owner l c = some (l.getD k g0).id := by
  cases ho : owner l c with
  | none => exact absurd hc (owner_none ho k hk)
  | some i =>
    obtain ⟨j, hj, h1, h2⟩ := owner_some ho
    have : j = k := by
      rcases Nat.lt_trichotomy j k with h3 | h3 | h3
      · exact absurd h1 (h.pre.apart k hk j h3 c hc)
      · exact h3
      · exact absurd hc (h.pre.apart j hj k h3 c h1)
    subst this
    rw [h2]
/-- a group on a path: that before it is its Of, and the last one has the code -/
theorem path_step {l : List Grp} (h : Valid l) {c : Int} {i : Nat} (hi : i < (path l c).length) : ∃ k, k < l.length ∧ (l.getD k g0).id = (path l c).getD i 0 ∧ (l.getD k g0).of = (if i = 0 then -1 else (path l c).getD (i - 1) 0) ∧ ((l.getD k g0).ms.contains c = decide (i + 1 = (path l c).length)) := by
  unfold path at hi ⊢
  cases ho : owner l c with
  | none => rw [ho] at hi; simp at hi
  | some id =>
    rw [ho] at hi
    dsimp only at hi ⊢
    obtain ⟨j, hj, hm, he⟩ := owner_some ho
    have hk1 := h.chain j hj
    rw [he] at hk1
    have hi' := hi
    rw [List.length_reverse] at hi
    obtain ⟨n, hn⟩ : ∃ n, (up l 12 id).length = n := ⟨_, rfl⟩
    have hrev : ∀ q, q < n → (up l 12 id).reverse.getD q 0 = (up l 12 id).getD (n - 1 - q) 0 := fun q hq => by
      rw [getD_eq (by rw [List.length_reverse]; omega), getD_eq (by omega), List.getElem_reverse]
      simp only [hn]
    rw [hn] at hi
    obtain ⟨h1, h2, h3⟩ := up_chain 12 id hk1 (n - 1 - i) (by omega)
    rw [hrev i hi, List.length_reverse, hn]
    obtain ⟨g, hg⟩ := Option.isSome_iff_exists.1 h1
    obtain ⟨hg1, hg2⟩ := find_some hg
    obtain ⟨k, hk, hkg⟩ := ex_getD g0 hg1
    refine ⟨k, hk, by rw [hkg]; exact hg2, ?_, ?_⟩
    · have : ofI l ((up l 12 id).getD (n - 1 - i) 0) = g.of := by unfold ofI; rw [hg]
      rw [hkg, ← this, h3, hn]
      by_cases e : i = 0
      · rw [if_pos e, if_neg (by omega)]
      · rw [if_neg e, if_pos (by omega), hrev (i - 1) (by omega)]
        congr 1; omega
    · rw [hkg, Bool.eq_iff_iff, decide_eq_true_eq, List.contains_iff_mem]
      have hz : (up l 12 id).getD 0 0 = id := by
        have := valid_up h (g := l.getD j g0) (mem_getD hj)
        rw [he] at this
        exact this.2.2.1
      constructor
      · intro hc
        have ho2 := owner_member h hk (c := c) (by rw [hkg]; exact hc)
        rw [ho, hkg, hg2] at ho2
        injection ho2 with ho2
        have := up_once hk1 (i := 0) (j := n - 1 - i) (by omega) (by omega) (by rw [hz]; exact ho2)
        omega
      · intro e
        have e2 : n - 1 - i = 0 := by omega
        rw [e2, hz] at hg2
        have : g = l.getD j g0 := by
          have h5 := h.inj hk hj (by rw [hkg, hg2, he])
          rw [← hkg, h5]
        rw [this]; exact hm
/-- below a group: whose path it is on -/
theorem mem_below {l : List Grp} (h : Valid l) (id c : Int) : (below l id).contains c = (path l c).contains id := by
  have h0 : (path l c).contains id = insB l id c := rfl
  rw [h0, Bool.eq_iff_iff, List.contains_iff_mem]
  unfold below
  rw [sortI_mem]
  unfold bel
  rw [List.take_length, List.mem_flatMap]
  constructor
  · rintro ⟨g, hg, hc⟩
    obtain ⟨k, hk, rfl⟩ := ex_getD g0 hg
    split at hc
    · rename_i h1
      rw [ins_member h hk hc]; exact h1
    · cases hc
  · intro hb
    cases ho : owner l c with
    | none => unfold insB path at hb; rw [ho] at hb; simp at hb
    | some i =>
      obtain ⟨k, hk, hc, _⟩ := owner_some ho
      rw [ins_member h hk hc] at hb
      exact ⟨l.getD k g0, mem_getD hk, by rw [if_pos hb]; exact hc⟩
theorem path_some {l : List Grp} (h : Valid l) {k : Nat} (hk : k < l.length) {c : Int} (hc : (l.getD k g0).ms.contains c = true) : (path l c).length ≠ 0 := by
  unfold path
  rw [owner_member h hk (List.contains_iff_mem.1 hc)]
  dsimp only
  rw [List.length_reverse]
  have := (valid_up h (g := l.getD k g0) (mem_getD hk)).2.1
  omega
theorem msok_nodup {ms : List Int} (h : MsOk ms ms.length) : ms.Nodup := by
  rw [List.nodup_iff_pairwise_ne, List.pairwise_iff_getElem]
  intro i j hi hj hij e
  have := h.lt hij hj
  rw [getD_eq hi, getD_eq hj] at this
  omega
/-- strictly ascending -/
theorem below_asc {l : List Grp} (h : Valid l) (id : Int) {k : Nat} (hk : k + 1 < (below l id).length) : (below l id).getD k 0 < (below l id).getD (k + 1) 0 := by
  have hs := sortI_sorted (bel l id l.length)
  have hnd : (bel l id l.length).Nodup := by
    have main : ∀ n, n ≤ l.length → (bel l id n).Nodup ∧ ∀ c ∈ bel l id n, ∃ j, j < n ∧ c ∈ (l.getD j g0).ms := by
      intro n
      induction n with
      | zero => intro _; exact ⟨by simp [bel], fun c hc => by simp [bel] at hc⟩
      | succ n ih =>
        intro hn
        obtain ⟨i1, i2⟩ := ih (by omega)
        rw [bel_succ (by omega)]
        refine ⟨List.nodup_append.2 ⟨i1, ?_, ?_⟩, fun c hc => ?_⟩
        · split
          · exact msok_nodup (h.pre.mem n (by omega))
          · exact List.nodup_nil
        · intro a ha b hb e
          subst e
          split at hb
          · obtain ⟨j, hj, hc⟩ := i2 a ha
            exact h.pre.apart n (by omega) j hj a hb hc
          · cases hb
        · rcases List.mem_append.1 hc with hc | hc
          · obtain ⟨j, hj, hc⟩ := i2 c hc
            exact ⟨j, by omega, hc⟩
          · split at hc
            · exact ⟨n, by omega, hc⟩
            · cases hc
    exact (main l.length (Nat.le_refl _)).1
  have hnd2 : (sortI (bel l id l.length)).Nodup := (sortI_perm _).nodup_iff.2 hnd
  unfold below at hk ⊢
  rw [getD_eq (by omega), getD_eq hk]
  have h1 := List.pairwise_iff_getElem.1 hs k (k + 1) (by omega) hk (by omega)
  have h2 := List.pairwise_iff_getElem.1 (List.nodup_iff_pairwise_ne.1 hnd2) k (k + 1) (by omega) hk (by omega)
  omega
end Go.Proofs.Ytebfenkjipaedaa.Gr
