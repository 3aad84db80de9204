/- The reference in plain words: what is valid, numbers put into ascending lists, paths, the common group. -/
import Derived.Test.YtebfenkjipaedaaGrpDisP
import Derived.Test.YtebfenkjipaedaaGrpMade2
import Derived.Test.YtebfenkjipaedaaGrpPor
namespace Go.Proofs.Ytebfenkjipaedaa.Gp
/-- what the reference asks of groups -/
structure RefV (l : List Grp) : Prop where
  len : l.length ≤ 24
  pre : Pre l l.length
  of : ∀ j, j < l.length → (l.getD j g0).of = -1 ∨ (find l (l.getD j g0).of).isSome = true
  ne : ∀ j, j < l.length → (l.getD j g0).of ≠ (l.getD j g0).id
  up : ∀ j, j < l.length → (outR l 13 (l.getD j g0).id).length ≤ 12
theorem pre_neg {l : List Grp} (h : Pre l l.length) : find l (-1) = none := by
  cases hf : find l (-1) with
  | none => rfl
  | some g =>
    obtain ⟨h1, h2⟩ := find_some hf
    obtain ⟨j, hj, e⟩ := ex_getD g0 h1
    have := (h.idr j hj).1
    rw [e] at this
    omega
theorem pre_find {l : List Grp} (h : Pre l l.length) {j : Nat} (hj : j < l.length) : find l (l.getD j g0).id = some (l.getD j g0) := by
  have := find_getD h (Nat.le_refl _) hj
  rw [List.take_length] at this
  exact this
theorem okUp_self {l : List Grp} {g : Grp} (h : find l g.id = some g) (hn : g.id ≠ -1) (e : g.of = g.id) : ∀ n, okUp l n g.id = false
  | 0 => okUp_zero hn
  | n + 1 => by
    rw [okUp_succ hn, h, ofI_of h, e, okUp_self h hn e n]; rfl
theorem Valid.refv {l : List Grp} (h : Valid l) : RefV l := by
  have hc : ∀ j, j < l.length → (l.getD j g0).id ≠ -1 ∧ okUp l 11 (l.getD j g0).of = true := fun j hj => by
    have h1 := h.chain j hj
    have hne : (l.getD j g0).id ≠ -1 := by have := (h.pre.idr j hj).1; omega
    rw [show (12 : Nat) = 11 + 1 from rfl, okUp_succ hne, Bool.and_eq_true, ofI_of (pre_find h.pre hj)] at h1
    exact ⟨hne, h1.2⟩
  refine ⟨h.len, h.pre, fun j hj => ?_, fun j hj e => ?_, fun j hj => ?_⟩
  · obtain ⟨_, h2⟩ := hc j hj
    by_cases e : (l.getD j g0).of = -1
    · exact .inl e
    · rw [show (11 : Nat) = 10 + 1 from rfl, okUp_succ e, Bool.and_eq_true] at h2
      exact .inr h2.1
  · have h1 := h.chain j hj
    rw [okUp_self (pre_find h.pre hj) (hc j hj).1 e] at h1
    cases h1
  · rw [outR_up (pre_neg h.pre) 12 _ (h.chain j hj) 13 (by omega)]
    exact up_len _ _ _
theorem RefV.valid {l : List Grp} (h : RefV l) : Valid l := by
  refine ⟨h.len, h.pre, fun j hj => okUp_outR (pre_neg h.pre) (fun x g hg => ?_) 12 _ (.inr (by rw [pre_find h.pre hj]; rfl)) (h.up j hj)⟩
  obtain ⟨k, hk, e⟩ := ex_getD g0 (find_some hg).1
  have := h.of k hk
  rw [e] at this
  exact this
/-- a number put into an ascending list -/
def putI (n : Int) : List Int → List Int
  | [] => [n]
  | x :: t => if x < n then x :: putI n t else if x = n then x :: t else n :: x :: t
theorem putI_at {n : Int} : ∀ {l : List Int} {k : Nat}, k ≤ l.length → (∀ j, j < k → l.getD j 0 < n) → (k < l.length → ¬ l.getD k 0 < n) → putI n l = if k < l.length ∧ l.getD k 0 = n then l else l.take k ++ n :: l.drop k
  | [], k, hk, _, _ => by
    obtain rfl : k = 0 := by simpa using hk
    rw [if_neg (by simp)]; rfl
  | x :: t, 0, _, _, h2 => by
    have h3 : ¬ x < n := h2 (by simp)
    unfold putI
    rw [if_neg h3]
    by_cases e : x = n
    · rw [if_pos e, if_pos ⟨by simp, e⟩]
    · rw [if_neg e, if_neg (fun h => e h.2)]; rfl
  | x :: t, k + 1, hk, h1, h2 => by
    have h3 : x < n := h1 0 (by omega)
    have ih := putI_at (n := n) (l := t) (k := k) (by simpa using hk) (fun j hj => h1 (j + 1) (by omega)) (fun h => h2 (by simpa using h))
    unfold putI
    rw [if_pos h3, ih]
    by_cases e : k < t.length ∧ t.getD k 0 = n
    · rw [if_pos e, if_pos ⟨by simpa using e.1, e.2⟩]
    · rw [if_neg e, if_neg (fun h => e ⟨by simpa using h.1, h.2⟩)]; rfl
theorem putI_mem {n x : Int} : ∀ {l : List Int}, x ∈ putI n l ↔ x = n ∨ x ∈ l
  | [] => by simp [putI]
  | y :: t => by
    unfold putI
    split
    · rw [List.mem_cons, putI_mem, List.mem_cons]
      constructor
      · rintro (h | h | h)
        · exact .inr (.inl h)
        · exact .inl h
        · exact .inr (.inr h)
      · rintro (h | h | h)
        · exact .inr (.inl h)
        · exact .inl h
        · exact .inr (.inr h)
    · split
      · rename_i h
        rw [List.mem_cons, ← h]
        constructor
        · exact fun h => .inr h
        · rintro (h | h)
          · exact .inl h
          · exact h
      · rw [List.mem_cons]
theorem putI_asc {n : Int} : ∀ {l : List Int}, l.Pairwise (· < ·) → (putI n l).Pairwise (· < ·)
  | [], _ => by simp [putI]
  | y :: t, h => by
    rw [List.pairwise_cons] at h
    unfold putI
    split
    · rename_i h1
      rw [List.pairwise_cons]
      refine ⟨fun x hx => ?_, putI_asc h.2⟩
      rcases putI_mem.1 hx with e | e
      · rw [e]; exact h1
      · exact h.1 x e
    · split
      · rw [List.pairwise_cons]; exact h
      · rename_i h1 h2
        rw [List.pairwise_cons, List.pairwise_cons]
        refine ⟨fun x hx => ?_, h⟩
        rcases List.mem_cons.1 hx with e | e
        · rw [e]; omega
        · have := h.1 x e; omega
theorem putI_len (n : Int) : ∀ l : List Int, (putI n l).length ≤ l.length + 1
  | [] => by simp [putI]
  | y :: t => by
    unfold putI
    have := putI_len n t
    split
    · simp only [List.length_cons]; omega
    · split <;> simp
/-- numbers put one after another -/
def putsI (l ms : List Int) : List Int := ms.foldl (fun a n => putI n a) l
theorem putsI_append (l a b : List Int) : putsI l (a ++ b) = putsI (putsI l a) b := List.foldl_append ..
theorem putsI_snoc (l a : List Int) (x : Int) : putsI l (a ++ [x]) = putI x (putsI l a) := by rw [putsI_append]; rfl
theorem putsI_mem {x : Int} : ∀ {ms l : List Int}, x ∈ putsI l ms ↔ x ∈ l ∨ x ∈ ms
  | [], l => by simp [putsI]
  | n :: t, l => by
    show x ∈ putsI (putI n l) t ↔ _
    rw [putsI_mem, putI_mem, List.mem_cons]
    constructor
    · rintro ((h | h) | h)
      · exact .inr (.inl h)
      · exact .inl h
      · exact .inr (.inr h)
    · rintro (h | h | h)
      · exact .inl (.inr h)
      · exact .inl (.inl h)
      · exact .inr h
theorem putsI_asc : ∀ {ms l : List Int}, l.Pairwise (· < ·) → (putsI l ms).Pairwise (· < ·)
  | [], _, h => h
  | _ :: t, _, h => putsI_asc (ms := t) (putI_asc h)
theorem putsI_len : ∀ (ms l : List Int), (putsI l ms).length ≤ l.length + ms.length
  | [], l => by simp [putsI]
  | n :: t, l => by
    show (putsI (putI n l) t).length ≤ _
    have h1 := putsI_len t (putI n l)
    have h2 := putI_len n l
    simp only [List.length_cons]
    omega
/-- the last of p that q has -/
def lastR (q : List Int) : List Int → Int → Int
  | [], d => d
  | x :: p, d => lastR q p (if q.contains x then x else d)
/-- as far as q goes with p -/
def Fits (p q : List Int) : Prop := ∀ i, i < p.length → p.getD i 0 ∈ q → i < q.length ∧ ∀ j, j ≤ i → p.getD j 0 = q.getD j 0
end Go.Proofs.Ytebfenkjipaedaa.Gp
namespace Go.Proofs.Ytebfenkjipaedaa.Gr
open Go.RowKit Gp Go.Sort
theorem lastR_none {q : List Int} : ∀ {p : List Int} (d : Int), (∀ x ∈ p, x ∉ q) → lastR q p d = d
  | [], _, _ => rfl
  | x :: p, d, h => by
    have hx : q.contains x = false := by rw [List.contains_eq_mem, decide_eq_false_iff_not]; exact h x (by simp)
    unfold lastR
    rw [hx, if_neg (by simp)]
    exact lastR_none d (fun y hy => h y (by simp [hy]))
theorem lastR_congr {q q' : List Int} : ∀ {p : List Int} (d : Int), (∀ x ∈ p, x ∈ q ↔ x ∈ q') → lastR q p d = lastR q' p d
  | [], _, _ => rfl
  | x :: p, d, h => by
    have hx : q.contains x = q'.contains x := by rw [Bool.eq_iff_iff, List.contains_iff_mem, List.contains_iff_mem]; exact h x (by simp)
    unfold lastR
    rw [hx]
    exact lastR_congr _ (fun y hy => h y (by simp [hy]))
theorem lastR_lastC : ∀ (p q : List Int) (d : Int), Fits p q → lastR q p d = lastC p q d
  | [], q, d, _ => by cases q <;> rfl
  | a :: p, [], d, _ => lastR_none d (fun x _ h => by cases h)
  | a :: p, b :: q, d, h => by
    by_cases e : a = b
    · subst e
      have hf : ∀ x ∈ p, x ∈ a :: q ↔ x ∈ q := fun x hx => by
        refine ⟨fun hm => ?_, fun hm => by simp [hm]⟩
        obtain ⟨i, hi, e⟩ := ex_getD (0 : Int) hx
        obtain ⟨h1, h2⟩ := h (i + 1) (by simpa using hi) (by rw [List.getD_cons_succ, e]; exact hm)
        have h3 := h2 (i + 1) (Nat.le_refl _)
        rw [List.getD_cons_succ, List.getD_cons_succ, e] at h3
        rw [h3]
        exact mem_getD (by simpa using h1)
      unfold lastR lastC
      rw [if_pos rfl, if_pos (by simp), lastR_congr a hf]
      refine lastR_lastC p q a (fun i hi hm => ?_)
      obtain ⟨h1, h2⟩ := h (i + 1) (by simpa using hi) (by rw [List.getD_cons_succ]; exact List.mem_cons_of_mem _ hm)
      exact ⟨by simpa using h1, fun j hj => by have := h2 (j + 1) (by omega); simpa using this⟩
    · have hn : ∀ x ∈ a :: p, x ∉ b :: q := fun x hx hm => by
        obtain ⟨i, hi, e2⟩ := ex_getD (0 : Int) hx
        exact e ((h i hi (by rw [e2]; exact hm)).2 0 (by omega))
      rw [lastR_none d hn]
      unfold lastC
      rw [if_neg e]
/-- a path, as far as one of its groups -/
theorem path_take {l : List Grp} (h : Valid l) {c : Int} {i : Nat} (hi : i < (path l c).length) : (path l c).take (i + 1) = (up l 12 ((path l c).getD i 0)).reverse := by
  unfold path at hi ⊢
  cases ho : owner l c with
  | none => rw [ho] at hi; simp at hi
  | some id =>
    rw [ho] at hi
    dsimp only at hi ⊢
    rw [List.length_reverse] at hi
    obtain ⟨j, hj, hm, he⟩ := owner_some ho
    have hk1 := h.chain j hj
    rw [he] at hk1
    rw [getD_rev hi]
    obtain ⟨u1, u2⟩ := up_drop 12 id hk1 ((up l 12 id).length - 1 - i) (by omega)
    have u3 := u2.trans (up_more (m := 12) u1 (by omega)).symm
    rw [← u3, List.take_reverse, show (up l 12 id).length - (i + 1) = (up l 12 id).length - 1 - i by omega]
theorem path_fits {l : List Grp} (h : Valid l) (a b : Int) : Fits (path l a) (path l b) := fun i hi hm => by
  obtain ⟨k, hk, e⟩ := ex_getD (0 : Int) hm
  have h1 := path_take h hi
  have h2 := path_take h hk
  rw [e, ← h1] at h2
  have h3 := congrArg List.length h2
  rw [List.length_take, List.length_take] at h3
  obtain rfl : k = i := by omega
  refine ⟨hk, fun j hj => ?_⟩
  have h4 : ((path l a).take (k + 1)).getD j 0 = ((path l b).take (k + 1)).getD j 0 := by rw [h2]
  rw [getD_take (by omega) (by omega), getD_take (by omega) (by omega)] at h4
  exact h4
theorem common_ref {l : List Grp} (h : Valid l) (a b : Int) : lastR (path l b) (path l a) (-1) = common l a b := lastR_lastC _ _ _ (path_fits h a b)
/-- a path, as the reference gathers it -/
def pathR (l : List Grp) (c : Int) (k : Nat) : List Int := (l.take k).flatMap fun g => if g.ms.contains c then (outR l 13 g.id).reverse else []
theorem pathR_succ {l : List Grp} {c : Int} {k : Nat} (h : k < l.length) : pathR l c (k + 1) = pathR l c k ++ (if (l.getD k g0).ms.contains c then (outR l 13 (l.getD k g0).id).reverse else []) := by
  unfold pathR
  rw [take_succ (d := g0) h, List.flatMap_append]
  simp
theorem pathR_all {l : List Grp} (h : Valid l) (c : Int) : pathR l c l.length = path l c := by
  have main : ∀ t : List Grp, (∀ g ∈ t, g ∈ l) → t.Pairwise (fun a b => a.id ≠ b.id) → t.flatMap (fun g => if g.ms.contains c then (outR l 13 g.id).reverse else []) = match owner t c with | none => [] | some id => (up l 12 id).reverse := by
    intro t
    induction t with
    | nil => intro _ _; rfl
    | cons g t ih =>
      intro hm hp
      rw [List.pairwise_cons] at hp
      rw [List.flatMap_cons]
      unfold owner
      rw [List.find?_cons]
      cases hc : g.ms.contains c with
      | true =>
        have hz : t.flatMap (fun g => if g.ms.contains c then (outR l 13 g.id).reverse else []) = [] := by
          rw [List.flatMap_eq_nil_iff]
          intro u hu
          have : u.ms.contains c = false := by
            rw [List.contains_eq_mem, decide_eq_false_iff_not]
            exact h.apart (hm g (by simp)) (hm u (by simp [hu])) (hp.1 u hu) (List.contains_iff_mem.1 hc)
          rw [this]; rfl
        obtain ⟨j, hj, e⟩ := ex_getD g0 (hm g (by simp))
        have hk := h.chain j hj
        rw [e] at hk
        rw [hz, List.append_nil, if_pos rfl, outR_up (pre_neg h.pre) 12 _ hk 13 (by omega)]
        rfl
      | false =>
        rw [if_neg (by simp), List.nil_append]
        exact ih (fun u hu => hm u (by simp [hu])) hp.2
  have := main l (fun g hg => hg) (h.pair.imp (fun h => by omega))
  unfold pathR path
  rw [List.take_length]
  exact this
/-- what is below, as the reference gathers it -/
theorem puts_below {l : List Grp} (h : Valid l) (id : Int) : putsI [] (bel l id l.length) = below l id := by
  refine asc_same (putsI_asc List.Pairwise.nil) (below_pair h id) (fun c => ?_)
  unfold below
  rw [putsI_mem, sortI_mem]
  simp
theorem outR_valid {l : List Grp} (h : Valid l) {j : Nat} (hj : j < l.length) : outR l 13 (l.getD j g0).id = up l 12 (l.getD j g0).id := outR_up (pre_neg h.pre) 12 _ (h.chain j hj) 13 (by omega)
theorem ms_asc {l : List Grp} (h : Valid l) {g : Grp} (hg : g ∈ l) : g.ms.Pairwise (· < ·) := by
  have hm := (h.each hg).2
  rw [List.pairwise_iff_getElem]
  intro i j hi hj hij
  have := hm.lt hij hj
  rw [getD_eq hi, getD_eq hj] at this
  exact this
/-- members of a group that is gone, put into those of the one around it -/
theorem puts_dis {l : List Grp} (h : Valid l) {g gone : Grp} (hg : g ∈ l) (hn : gone ∈ l) (hne : g.id ≠ gone.id) : putsI g.ms gone.ms = sortI (g.ms ++ gone.ms) := by
  have hs := sortI_sorted (g.ms ++ gone.ms)
  have hnd : (g.ms ++ gone.ms).Nodup := by
    rw [List.nodup_append]
    refine ⟨?_, ?_, fun a ha b hb e => ?_⟩
    · exact (ms_asc h hg).imp (fun h => by omega)
    · exact (ms_asc h hn).imp (fun h => by omega)
    · subst e
      exact h.apart hg hn hne ha hb
  have hnd2 : (sortI (g.ms ++ gone.ms)).Nodup := (sortI_perm _).nodup_iff.2 hnd
  refine asc_same (putsI_asc (ms_asc h hg)) ?_ (fun c => by rw [putsI_mem, sortI_mem, List.mem_append])
  rw [List.pairwise_iff_getElem]
  intro i j hi hj hij
  have h1 := List.pairwise_iff_getElem.1 hs i j hi hj hij
  have h2 := List.pairwise_iff_getElem.1 (List.nodup_iff_pairwise_ne.1 hnd2) i j hi hj hij
  omega
theorem below_ins {l : List Grp} (h : Valid l) (id c : Int) : (below l id).contains c = insB l id c := mem_below h id c
end Go.Proofs.Ytebfenkjipaedaa.Gr
