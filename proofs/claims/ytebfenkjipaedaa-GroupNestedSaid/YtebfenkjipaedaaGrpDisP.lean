/- A group dissolved: the list that is left is valid, paths lose the group, what is below the others stays. Plain. -/
import Derived.Test.YtebfenkjipaedaaGrpTree
import Derived.Test.YtebfenkjipaedaaGrpDis
import Derived.Test.YtebfenkjipaedaaGe
namespace Go.Proofs.Ytebfenkjipaedaa.Gr
open Go.RowKit Gp Go.Sort
theorem valid_of {l : List Grp} (h1 : l.length ≤ 24) (h2 : ∀ g ∈ l, (0 ≤ g.id ∧ g.id ≤ 999) ∧ MsOk g.ms g.ms.length) (h3 : l.Pairwise (fun a b => a.id < b.id)) (h4 : ∀ a ∈ l, ∀ b ∈ l, a.id ≠ b.id → ∀ c ∈ a.ms, c ∉ b.ms) (h5 : ∀ g ∈ l, okUp l 12 g.id = true) : Valid l := by
  have hlt : ∀ {j k : Nat}, j < k → k < l.length → (l.getD j g0).id < (l.getD k g0).id := fun {j k} hjk hk => by
    rw [getD_eq (by omega), getD_eq hk]
    exact List.pairwise_iff_getElem.1 h3 _ _ (by omega) hk hjk
  exact ⟨h1, ⟨fun j hj => (h2 _ (mem_getD hj)).1, fun j hj => hlt (by omega) hj, fun j hj => (h2 _ (mem_getD hj)).2, fun j hj j' hj' c hc => h4 _ (mem_getD hj) _ (mem_getD (by omega)) (by have := hlt hj' hj; omega) c hc⟩, fun j hj => h5 _ (mem_getD hj)⟩
end Go.Proofs.Ytebfenkjipaedaa.Gr
namespace Go.Proofs.Ytebfenkjipaedaa.Gp
theorem Valid.pair {l : List Grp} (h : Valid l) : l.Pairwise (fun a b => a.id < b.id) := by
  rw [List.pairwise_iff_getElem]
  intro i j hi hj hij
  have := h.pre.lt hij hj
  rw [getD_eq hi, getD_eq hj] at this
  exact this
theorem Valid.one {l : List Grp} (h : Valid l) {a b : Grp} (ha : a ∈ l) (hb : b ∈ l) (e : a.id = b.id) : a = b := by
  obtain ⟨i, hi, rfl⟩ := ex_getD g0 ha
  obtain ⟨j, hj, rfl⟩ := ex_getD g0 hb
  rw [h.inj hi hj e]
theorem Valid.each {l : List Grp} (h : Valid l) {g : Grp} (hg : g ∈ l) : (0 ≤ g.id ∧ g.id ≤ 999) ∧ MsOk g.ms g.ms.length := by
  obtain ⟨j, hj, rfl⟩ := ex_getD g0 hg
  exact ⟨h.pre.idr j hj, h.pre.mem j hj⟩
theorem Valid.apart {l : List Grp} (h : Valid l) {a b : Grp} (ha : a ∈ l) (hb : b ∈ l) (e : a.id ≠ b.id) {c : Int} (hc : c ∈ a.ms) : c ∉ b.ms := by
  obtain ⟨i, hi, rfl⟩ := ex_getD g0 ha
  obtain ⟨j, hj, rfl⟩ := ex_getD g0 hb
  rcases Nat.lt_trichotomy i j with h3 | h3 | h3
  · exact fun h4 => h.pre.apart j hj i h3 c h4 hc
  · subst h3; exact absurd rfl e
  · exact h.pre.apart i hi j h3 c hc
theorem Valid.find {l : List Grp} (h : Valid l) {g : Grp} (hg : g ∈ l) : Gp.find l g.id = some g := by
  cases hf : Gp.find l g.id with
  | none => exact absurd rfl (find_none hf g hg)
  | some g' =>
    obtain ⟨h1, h2⟩ := find_some hf
    rw [h.one h1 hg h2]
end Go.Proofs.Ytebfenkjipaedaa.Gp
namespace Go.Proofs.Ytebfenkjipaedaa.Gr
open Go.RowKit Gp Go.Sort
theorem owner_mem {l : List Grp} (h : Valid l) {g : Grp} (hg : g ∈ l) {c : Int} (hc : c ∈ g.ms) : owner l c = some g.id := by
  obtain ⟨j, hj, rfl⟩ := ex_getD g0 hg
  exact owner_member h hj hc
/-- what a group comes to -/
def kd (gone : Grp) (id : Int) (g : Grp) : Int × Int × List Int := (g.id, disO gone id g, disM gone g)
theorem dis_eq (gone : Grp) (id : Int) : ∀ l : List Grp, l.flatMap (disK gone id) = (l.filter (fun g => g.id != id)).map (kd gone id)
  | [] => rfl
  | g :: t => by
    rw [List.flatMap_cons, List.filter_cons, dis_eq gone id t]
    unfold disK
    by_cases e : g.id = id
    · rw [if_pos e, if_neg (by simp [e])]; rfl
    · rw [if_neg e, if_pos (by simp [e])]; rfl
/-- m is l without the group -/
structure Dis (l m : List Grp) (gone : Grp) : Prop where
  v : Valid l
  g : gone ∈ l
  m : m.map key = (l.filter (fun g => g.id != gone.id)).map (kd gone gone.id)
theorem Dis.to {l m : List Grp} {gone : Grp} (h : Dis l m gone) {g : Grp} (hg : g ∈ l) (hne : g.id ≠ gone.id) : ∃ g' ∈ m, key g' = kd gone gone.id g := by
  have : kd gone gone.id g ∈ m.map key := by
    rw [h.m]; exact List.mem_map_of_mem (List.mem_filter.2 ⟨hg, by simpa using hne⟩)
  obtain ⟨g', h1, h2⟩ := List.mem_map.1 this
  exact ⟨g', h1, h2⟩
theorem Dis.of {l m : List Grp} {gone : Grp} (h : Dis l m gone) {g' : Grp} (hg : g' ∈ m) : ∃ g ∈ l, g.id ≠ gone.id ∧ key g' = kd gone gone.id g := by
  have : key g' ∈ m.map key := List.mem_map_of_mem hg
  rw [h.m] at this
  obtain ⟨g, h1, h2⟩ := List.mem_map.1 this
  obtain ⟨h3, h4⟩ := List.mem_filter.1 h1
  exact ⟨g, h3, by simpa using h4, h2.symm⟩
theorem key_id {g' : Grp} {gone g : Grp} {id : Int} (h : key g' = kd gone id g) : g'.id = g.id ∧ g'.of = disO gone id g ∧ g'.ms = disM gone g := by
  unfold key kd at h
  simp only [Prod.mk.injEq] at h
  exact h
theorem Dis.pair {l m : List Grp} {gone : Grp} (h : Dis l m gone) : m.Pairwise (fun a b => a.id < b.id) := by
  have h1 : ((l.filter (fun g => g.id != gone.id)).map (kd gone gone.id)).Pairwise (fun a b => a.1 < b.1) := by
    rw [List.pairwise_map]
    exact (h.v.pair.sublist (List.filter_sublist)).imp (fun h => h)
  rw [← h.m, List.pairwise_map] at h1
  exact h1
theorem Dis.find {l m : List Grp} {gone : Grp} (h : Dis l m gone) {g : Grp} (hg : g ∈ l) (hne : g.id ≠ gone.id) : ∃ g', Gp.find m g.id = some g' ∧ key g' = kd gone gone.id g := by
  obtain ⟨g', h1, h2⟩ := h.to hg hne
  cases hf : Gp.find m g.id with
  | none => exact absurd (key_id h2).1 (find_none hf g' h1)
  | some g2 =>
    obtain ⟨h3, h4⟩ := find_some hf
    obtain ⟨g3, h5, _, h7⟩ := h.of h3
    have : g3 = g := h.v.one h5 hg (by rw [← (key_id h7).1, h4])
    rw [this] at h7
    exact ⟨g2, rfl, h7⟩
/-- a chain loses the group -/
theorem Dis.up {l m : List Grp} {gone : Grp} (h : Dis l m gone) : ∀ (n : Nat) (x : Int), okUp l n x = true → x ≠ gone.id → okUp m n x = true ∧ Gp.up m n x = (Gp.up l n x).filter (fun y => y != gone.id) := by
  intro n
  induction n using Nat.strongRecOn with
  | ind n ih =>
    intro x hx hne
    by_cases e : x = -1
    · rw [e, up_neg, up_neg]; exact ⟨okUp_neg _ _, rfl⟩
    · cases n with
      | zero => rw [okUp_zero e] at hx; cases hx
      | succ n =>
        rw [okUp_succ e, Bool.and_eq_true] at hx
        obtain ⟨g, hg⟩ := Option.isSome_iff_exists.1 hx.1
        obtain ⟨hg1, hg2⟩ := find_some hg
        have hof : ofI l x = g.of := by unfold ofI; rw [hg]
        obtain ⟨g', hf, hk⟩ := h.find hg1 (by rw [hg2]; exact hne)
        rw [hg2] at hf
        have hof' : ofI m x = disO gone gone.id g := by unfold ofI; rw [hf]; exact (key_id hk).2.1
        have hgo := valid_up h.v h.g
        have hfg := h.v.find h.g
        have hogo : ofI l gone.id = gone.of := by unfold ofI; rw [hfg]
        rw [okUp_succ e, up_succ e, up_succ e, hf, hof', List.filter_cons, if_pos (by simpa using hne), hof]
        rw [hof] at hx
        unfold disO
        by_cases e2 : g.of = gone.id
        · rw [if_pos e2]
          rw [e2] at hx ⊢
          cases n with
          | zero => rw [okUp_zero hgo.2.2.2] at hx; cases hx.2
          | succ n =>
            have hx2 := hx.2
            rw [okUp_succ hgo.2.2.2, Bool.and_eq_true, hogo] at hx2
            have hng : gone.of ≠ gone.id := fun e3 => by
              have h1 := hx.2
              have hl : Gp.up l (n + 1) gone.id = gone.id :: Gp.up l n gone.id := by rw [up_succ hgo.2.2.2, hogo, e3]
              have h2 := hx2.2
              rw [e3] at h2
              cases n with
              | zero => rw [okUp_zero hgo.2.2.2] at h2; cases h2
              | succ n =>
                have hl2 : Gp.up l (n + 1) gone.id = gone.id :: Gp.up l n (ofI l gone.id) := up_succ hgo.2.2.2
                have := up_once h1 (i := 0) (j := 1) (by rw [hl]; simp) (by rw [hl, hl2]; simp) (by rw [hl, hl2]; rfl)
                omega
            obtain ⟨i1, i2⟩ := ih n (by omega) gone.of hx2.2 hng
            rw [up_succ hgo.2.2.2, hogo, List.filter_cons, if_neg (by simp), up_more i1 (Nat.le_succ n), i2, okUp_mono i1 (Nat.le_succ n)]
            exact ⟨rfl, rfl⟩
        · rw [if_neg e2]
          obtain ⟨i1, i2⟩ := ih n (by omega) g.of hx.2 e2
          rw [i1, i2]
          exact ⟨rfl, rfl⟩
theorem msok_of {ms : List Int} (h : ∀ c ∈ ms, 1 ≤ c ∧ c ≤ 39999) (hp : ms.Pairwise (· < ·)) : MsOk ms ms.length :=
  ⟨fun q hq => h _ (mem_getD hq), fun q hq => by rw [getD_eq (by omega), getD_eq hq]; exact List.pairwise_iff_getElem.1 hp _ _ (by omega) hq (by omega)⟩
theorem sortI_lt {zs : List Int} (h : zs.Nodup) : (sortI zs).Pairwise (· < ·) :=
  ((sortI_sorted zs).and (List.nodup_iff_pairwise_ne.1 ((sortI_perm zs).nodup_iff.2 h))).imp (fun h => by omega)
theorem mem_disM {gone g : Grp} {c : Int} : c ∈ disM gone g ↔ c ∈ g.ms ∨ (g.id = gone.of ∧ c ∈ gone.ms) := by
  unfold disM
  split
  · rename_i e
    rw [sortI_mem, List.mem_append]
    simp [e]
  · rename_i e
    simp [e]
theorem Dis.msok {l m : List Grp} {gone : Grp} (h : Dis l m gone) {g : Grp} (hg : g ∈ l) (hne : g.id ≠ gone.id) : MsOk (disM gone g) (disM gone g).length := by
  have h1 := (h.v.each hg).2
  have h2 := (h.v.each h.g).2
  unfold disM
  split
  · refine msok_of (fun c hc => ?_) (sortI_lt (List.nodup_append.2 ⟨msok_nodup h1, msok_nodup h2, fun a ha b hb e => ?_⟩))
    · rcases List.mem_append.1 (sortI_mem.1 hc) with h3 | h3
      · obtain ⟨q, hq, rfl⟩ := ex_getD 0 h3
        exact h1.rng q hq
      · obtain ⟨q, hq, rfl⟩ := ex_getD 0 h3
        exact h2.rng q hq
    · rw [e] at ha
      exact h.v.apart hg h.g hne ha hb
  · exact h1
theorem Dis.len {l m : List Grp} {gone : Grp} (h : Dis l m gone) : m.length + 1 = l.length := by
  have h1 : m.length = (l.filter (fun g => g.id != gone.id)).length := by
    have := congrArg List.length h.m
    rwa [List.length_map, List.length_map] at this
  rw [h1]
  have main : ∀ t : List Grp, t.Pairwise (fun a b => a.id < b.id) → gone ∈ t → (t.filter (fun g => g.id != gone.id)).length + 1 = t.length := by
    intro t
    induction t with
    | nil => intro _ h2; cases h2
    | cons g t ih =>
      intro hp hm
      rw [List.pairwise_cons] at hp
      rcases List.mem_cons.1 hm with e | e
      · rw [List.filter_cons, if_neg (by rw [e]; simp), List.filter_eq_self.2 (fun x hx => by have := hp.1 x hx; rw [← e] at this; simp; omega)]
        rfl
      · have := hp.1 gone e
        rw [List.filter_cons, if_pos (by simp; omega), List.length_cons, ih hp.2 e]
        rfl
  exact main l h.v.pair h.g
theorem Dis.valid {l m : List Grp} {gone : Grp} (h : Dis l m gone) : Valid m := by
  refine valid_of (by have := h.len; have := h.v.len; omega) (fun g' hg' => ?_) h.pair (fun a ha b hb hab c hc hcb => ?_) (fun g' hg' => ?_)
  · obtain ⟨g, h1, h2, h3⟩ := h.of hg'
    obtain ⟨k1, _, k3⟩ := key_id h3
    rw [k1, k3]
    exact ⟨(h.v.each h1).1, h.msok h1 h2⟩
  · obtain ⟨x, x1, x2, x3⟩ := h.of ha
    obtain ⟨y, y1, y2, y3⟩ := h.of hb
    obtain ⟨k1, _, k3⟩ := key_id x3
    obtain ⟨j1, _, j3⟩ := key_id y3
    rw [k1, j1] at hab
    rw [k3, mem_disM] at hc
    rw [j3, mem_disM] at hcb
    rcases hc with hc | ⟨e1, hc⟩ <;> rcases hcb with hcb | ⟨e2, hcb⟩
    · exact h.v.apart x1 y1 hab hc hcb
    · exact h.v.apart x1 h.g x2 hc hcb
    · exact h.v.apart y1 h.g y2 hcb hc
    · exact hab (e1.trans e2.symm)
  · obtain ⟨g, h1, h2, h3⟩ := h.of hg'
    rw [(key_id h3).1]
    exact (h.up 12 g.id (valid_up h.v h1).1 h2).1
/-- the paths -/
theorem Dis.path {l m : List Grp} {gone : Grp} (h : Dis l m gone) (c : Int) : Gp.path m c = (Gp.path l c).filter (fun y => y != gone.id) := by
  have hvm := h.valid
  have hno : (∀ g' ∈ m, c ∉ g'.ms) → owner m c = none := fun hn => by
    cases ho : owner m c with
    | none => rfl
    | some i =>
      obtain ⟨j, hj, hc, _⟩ := owner_some ho
      exact absurd hc (hn _ (mem_getD hj))
  unfold Gp.path
  cases ho : owner l c with
  | none =>
    rw [hno (fun g' hg' hc => by
      obtain ⟨g, h1, h2, h3⟩ := h.of hg'
      rw [(key_id h3).2.2, mem_disM] at hc
      have hall : ∀ x ∈ l, c ∉ x.ms := fun x hx => by
        obtain ⟨j, hj, rfl⟩ := ex_getD g0 hx
        exact owner_none ho j hj
      rcases hc with hc | ⟨_, hc⟩
      · exact hall g h1 hc
      · exact hall gone h.g hc)]
    rfl
  | some i =>
    obtain ⟨j, hj, hc, hi⟩ := owner_some ho
    have hgl : l.getD j g0 ∈ l := mem_getD hj
    by_cases e : i = gone.id
    · have hgg : l.getD j g0 = gone := h.v.one hgl h.g (by rw [hi, e])
      rw [hgg] at hc
      subst e
      obtain ⟨hu1, _, _, hu4⟩ := valid_up h.v h.g
      have hofg : ofI l gone.id = gone.of := by unfold ofI; rw [h.v.find h.g]
      rw [show (12 : Nat) = 11 + 1 from rfl, okUp_succ hu4, Bool.and_eq_true, hofg] at hu1
      dsimp only
      rw [show Gp.up l 12 gone.id = gone.id :: Gp.up l 11 gone.of by rw [show (12 : Nat) = 11 + 1 from rfl, up_succ hu4, hofg], List.filter_reverse, List.filter_cons, if_neg (by simp)]
      by_cases e2 : gone.of = -1
      · rw [e2, up_neg, hno (fun g' hg' hc' => by
          obtain ⟨g, h1, h2, h3⟩ := h.of hg'
          rw [(key_id h3).2.2, mem_disM] at hc'
          rcases hc' with hc' | ⟨e3, _⟩
          · exact h.v.apart h1 h.g h2 hc' hc
          · have := (h.v.each h1).1; omega)]
        rfl
      · have h11 := hu1.2
        have h11' := h11
        rw [show (11 : Nat) = 10 + 1 from rfl, okUp_succ e2, Bool.and_eq_true] at h11
        obtain ⟨g1, hg1⟩ := Option.isSome_iff_exists.1 h11.1
        obtain ⟨k1, k2⟩ := find_some hg1
        have hne : gone.of ≠ gone.id := fun e3 => by
          have hl : Gp.up l 12 gone.id = gone.id :: gone.id :: Gp.up l 10 gone.of := by
            rw [show (12 : Nat) = 11 + 1 from rfl, up_succ hu4, hofg, e3, show (11 : Nat) = 10 + 1 from rfl, up_succ hu4, hofg, e3]
          have := up_once (valid_up h.v h.g).1 (i := 0) (j := 1) (by rw [hl]; simp) (by rw [hl]; simp) (by rw [hl]; rfl)
          omega
        obtain ⟨g', q1, q2⟩ := h.to k1 (by rw [k2]; exact hne)
        obtain ⟨r1, _, r3⟩ := key_id q2
        rw [owner_mem hvm q1 (c := c) (by rw [r3, mem_disM]; exact .inr ⟨k2, hc⟩), r1, k2]
        obtain ⟨s1, s2⟩ := h.up 11 gone.of h11' hne
        dsimp only
        rw [up_more s1 (by omega : 11 ≤ 12), s2]
    · obtain ⟨g', q1, q2⟩ := h.to hgl (by rw [hi]; exact e)
      obtain ⟨r1, _, r3⟩ := key_id q2
      rw [owner_mem hvm q1 (c := c) (by rw [r3, mem_disM]; exact .inl hc), r1, hi]
      dsimp only
      rw [List.filter_reverse]
      have h5 := (valid_up h.v hgl).1
      rw [hi] at h5
      rw [(h.up 12 i h5 e).2]
/-- two lists that ascend, with the same members -/
theorem asc_same : ∀ {xs ys : List Int}, xs.Pairwise (· < ·) → ys.Pairwise (· < ·) → (∀ c, c ∈ xs ↔ c ∈ ys) → xs = ys
  | [], [], _, _, _ => rfl
  | [], y :: _, _, _, h => absurd ((h y).2 (by simp)) (by simp)
  | x :: _, [], _, _, h => absurd ((h x).1 (by simp)) (by simp)
  | x :: xs, y :: ys, h1, h2, h => by
    rw [List.pairwise_cons] at h1 h2
    have hxy : x = y := by
      rcases List.mem_cons.1 ((h x).1 (by simp)) with e | e
      · exact e
      · rcases List.mem_cons.1 ((h y).2 (by simp)) with e2 | e2
        · exact e2.symm
        · have := h2.1 x e; have := h1.1 y e2; omega
    subst hxy
    rw [asc_same h1.2 h2.2 (fun c => ?_)]
    constructor
    · intro hc
      rcases List.mem_cons.1 ((h c).1 (by simp [hc])) with e | e
      · have := h1.1 c hc; omega
      · exact e
    · intro hc
      rcases List.mem_cons.1 ((h c).2 (by simp [hc])) with e | e
      · have := h2.1 c hc; omega
      · exact e
theorem below_pair {l : List Grp} (h : Valid l) (id : Int) : (below l id).Pairwise (· < ·) := by
  have key : ∀ {i j : Nat}, i < j → j < (below l id).length → (below l id).getD i 0 < (below l id).getD j 0 := by
    intro i j hij
    induction j with
    | zero => omega
    | succ j ih =>
      intro hj
      have h1 := below_asc h id hj
      rcases Nat.lt_or_ge i j with h2 | h2
      · have := ih h2 (by omega); omega
      · obtain rfl : i = j := by omega
        exact h1
  rw [List.pairwise_iff_getElem]
  intro i j hi hj hij
  have := key hij hj
  rwa [getD_eq hi, getD_eq hj] at this
theorem Dis.below {l m : List Grp} {gone : Grp} (h : Dis l m gone) {x : Int} (hx : x ≠ gone.id) : Gr.below m x = Gr.below l x := by
  refine asc_same (below_pair h.valid x) (below_pair h.v x) (fun c => ?_)
  rw [← List.contains_iff_mem, ← List.contains_iff_mem, mem_below h.valid, mem_below h.v, h.path, List.contains_iff_mem, List.contains_iff_mem, List.mem_filter]
  simp [hx]
end Go.Proofs.Ytebfenkjipaedaa.Gr
