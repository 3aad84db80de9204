/- What lies inside of a group, and its ports. Plain. -/
import Derived.Test.YtebfenkjipaedaaGrpDisP
import Derived.Test.YtebfenkjipaedaaGrpPor
namespace Go.Proofs.Ytebfenkjipaedaa.Gr
open Go.RowKit Gp Go.Sort
/-- a group on a path: what is around it, is on the path -/
theorem path_drop {l : List Grp} (h : Valid l) {c a : Int} (ha : a ∈ path l c) : ∃ j, (up l 12 a) = (path l c).reverse.drop j ∧ (path l c).reverse.getD j 0 = a ∧ j < (path l c).length := by
  unfold path at ha ⊢
  cases ho : owner l c with
  | none => rw [ho] at ha; cases ha
  | some id =>
    rw [ho] at ha
    dsimp only at ha ⊢
    rw [List.reverse_reverse]
    obtain ⟨j, hj, hm, he⟩ := owner_some ho
    have hk1 := h.chain j hj
    rw [he] at hk1
    rw [List.mem_reverse] at ha
    obtain ⟨q, hq, e⟩ := ex_getD 0 ha
    obtain ⟨u1, u2⟩ := up_drop 12 id hk1 q hq
    rw [e] at u1 u2
    exact ⟨q, by rw [u2]; exact up_more u1 (by omega), e, by rw [List.length_reverse]; exact hq⟩
theorem ins_iff {l : List Grp} {id c : Int} : insB l id c = true ↔ id ∈ path l c := by unfold insB; rw [List.contains_iff_mem]
theorem ins_around {l : List Grp} (h : Valid l) {a b c : Int} (hb : b ∈ up l 12 a) (hc : insB l a c = true) : insB l b c = true := by
  rw [ins_iff] at hc ⊢
  obtain ⟨j, h1, _, _⟩ := path_drop h hc
  rw [h1] at hb
  exact List.mem_reverse.1 (List.mem_of_mem_drop hb)
theorem ins_both {l : List Grp} (h : Valid l) {a b c : Int} (ha : insB l a c = true) (hb : insB l b c = true) : b ∈ up l 12 a ∨ a ∈ up l 12 b := by
  rw [ins_iff] at ha hb
  obtain ⟨i, h1, h2, h3⟩ := path_drop h ha
  obtain ⟨j, k1, k2, k3⟩ := path_drop h hb
  rw [h1, k1]
  rcases Nat.le_total i j with hij | hij
  · left
    rw [← k2, List.mem_drop_iff_getElem]
    refine ⟨j - i, by rw [List.length_reverse]; omega, ?_⟩
    rw [getD_eq (by rw [List.length_reverse]; omega)]
    congr 1; omega
  · right
    rw [← h2, List.mem_drop_iff_getElem]
    refine ⟨i - j, by rw [List.length_reverse]; omega, ?_⟩
    rw [getD_eq (by rw [List.length_reverse]; omega)]
    congr 1; omega
theorem ins_up {l : List Grp} (h : Valid l) {g : Grp} (hg : g ∈ l) (ho : g.of ≠ -1) {c : Int} (hc : insB l g.id c = true) : insB l g.of c = true := by
  refine ins_around h ?_ hc
  obtain ⟨h1, _, _, h4⟩ := valid_up h hg
  have hof : ofI l g.id = g.of := by unfold ofI; rw [h.find hg]
  rw [show (12 : Nat) = 11 + 1 from rfl, okUp_succ h4, Bool.and_eq_true, hof] at h1
  rw [show (12 : Nat) = 11 + 1 from rfl, up_succ h4, hof]
  rw [show (11 : Nat) = 10 + 1 from rfl, up_succ ho]
  simp
theorem rise_inj {ws : List Wir} (hr : riseB (ws.map (·.code)) = true) {u v : Wir} (hu : u ∈ ws) (hv : v ∈ ws) (e : u.code = v.code) : u = v := by
  have key : ∀ {i j : Nat}, i < j → j < ws.length → (ws.getD i w0).code < (ws.getD j w0).code := by
    intro i j hij
    induction j with
    | zero => omega
    | succ j ih =>
      intro hj
      have h1 := riseB_iff.1 hr j (by rw [List.length_map]; exact hj)
      rw [getD_map (d := w0) (by omega), getD_map (d := w0) hj] at h1
      rcases Nat.lt_or_ge i j with h2 | h2
      · have := ih h2 (by omega); omega
      · obtain rfl : i = j := by omega
        exact h1
  obtain ⟨i, hi, rfl⟩ := ex_getD w0 hu
  obtain ⟨j, hj, rfl⟩ := ex_getD w0 hv
  rcases Nat.lt_trichotomy i j with h | h | h
  · have := key h hj; omega
  · rw [h]
  · have := key h hi; omega
theorem port_of {l : List Grp} {id : Int} {u : Wir} {p : Prt} (h : p ∈ portOf l id u) : p.wire = u.code ∧ ((p.inw = false ∧ p.dev = u.src ∧ insB l id u.src = true ∧ insB l id u.dst = false) ∨ (p.inw = true ∧ p.dev = u.dst ∧ insB l id u.dst = true ∧ insB l id u.src = false)) := by
  unfold portOf at h
  cases h1 : insB l id u.src <;> cases h2 : insB l id u.dst <;> rw [h1, h2] at h <;> simp at h
  · subst h; exact ⟨rfl, .inr ⟨rfl, rfl, rfl, rfl⟩⟩
  · subst h; exact ⟨rfl, .inl ⟨rfl, rfl, rfl, rfl⟩⟩
/-- GroupPorts, in plain words -/
theorem ports_dir {l : List Grp} (h : Valid l) {a b : Int} {ws : List Wir} (hr : riseB (ws.map (·.code)) = true) {x y : Prt} (hx : x ∈ portsL l a ws) (hy : y ∈ portsL l b ws) (e : x.wire = y.wire) :
    (x.inw = y.inw) ↔ (b ∈ up l 12 a ∨ a ∈ up l 12 b) := by
  obtain ⟨u, hu, hxu⟩ := List.mem_flatMap.1 hx
  obtain ⟨v, hv, hyv⟩ := List.mem_flatMap.1 hy
  obtain ⟨x1, x2⟩ := port_of hxu
  obtain ⟨y1, y2⟩ := port_of hyv
  have huv : u = v := rise_inj hr hu hv (by rw [← x1, ← y1, e])
  subst huv
  constructor
  · intro hin
    rcases x2 with ⟨i1, _, i3, i4⟩ | ⟨i1, _, i3, i4⟩ <;> rcases y2 with ⟨j1, _, j3, j4⟩ | ⟨j1, _, j3, j4⟩
    · exact ins_both h i3 j3
    · rw [i1, j1] at hin; cases hin
    · rw [i1, j1] at hin; cases hin
    · exact ins_both h i3 j3
  · intro hn
    have hor : ∀ c c', insB l a c = true → insB l a c' = false → insB l b c' = true → insB l b c = false → False := fun c c' h1 h2 h3 h4 => by
      rcases hn with hn | hn
      · have := ins_around h hn h1; rw [h4] at this; cases this
      · have := ins_around h hn h3; rw [h2] at this; cases this
    rcases x2 with ⟨i1, _, i3, i4⟩ | ⟨i1, _, i3, i4⟩ <;> rcases y2 with ⟨j1, _, j3, j4⟩ | ⟨j1, _, j3, j4⟩
    · rw [i1, j1]
    · exact (hor _ _ i3 i4 j3 j4).elim
    · exact (hor _ _ i3 i4 j3 j4).elim
    · rw [i1, j1]
/-- GroupNested, in plain words: the ports -/
theorem ports_nested {l : List Grp} (h : Valid l) {g : Grp} (hg : g ∈ l) (ho : g.of ≠ -1) {ws : List Wir} (hr : riseB (ws.map (·.code)) = true) :
    portsL l g.id (ws.filter (wIn l g.of)) = (portsL l g.id ws).filter (fun p => !(portsL l g.of ws).any (fun q => q.wire == p.wire)) := by
  have main : ∀ t : List Wir, (∀ u ∈ t, u ∈ ws) → portsL l g.id (t.filter (wIn l g.of)) = (portsL l g.id t).filter (fun p => !(portsL l g.of ws).any (fun q => q.wire == p.wire)) := by
    intro t
    induction t with
    | nil => intro _; rfl
    | cons u t ih =>
      intro hm
      have hu := hm u (by simp)
      have hb1 : insB l g.id u.src = true → insB l g.of u.src = true := fun h1 => ins_up h hg ho h1
      have hb2 : insB l g.id u.dst = true → insB l g.of u.dst = true := fun h1 => ins_up h hg ho h1
      have hsh : ∀ p ∈ portOf l g.id u, (portsL l g.of ws).any (fun q => q.wire == p.wire) = !wIn l g.of u := fun p hp => by
        obtain ⟨p1, p2⟩ := port_of hp
        rw [Bool.eq_iff_iff, List.any_eq_true]
        constructor
        · rintro ⟨q, hq, e⟩
          obtain ⟨v, hv, hqv⟩ := List.mem_flatMap.1 hq
          obtain ⟨q1, q2⟩ := port_of hqv
          have : v = u := rise_inj hr hv hu (by rw [← q1, ← p1]; exact beq_iff_eq.1 e)
          subst this
          unfold wIn
          rcases q2 with ⟨_, _, j3, j4⟩ | ⟨_, _, j3, j4⟩ <;> rw [j3, j4] <;> rfl
        · intro hw
          unfold wIn at hw
          have : ∃ q, q ∈ portOf l g.of u := by
            unfold portOf
            rcases p2 with ⟨_, _, i3, _⟩ | ⟨_, _, i3, _⟩
            · have := hb1 i3
              rw [this] at hw ⊢
              cases h2 : insB l g.of u.dst
              · exact ⟨⟨u.code, false, u.src⟩, by simp⟩
              · rw [h2] at hw; cases hw
            · have := hb2 i3
              rw [this] at hw ⊢
              cases h2 : insB l g.of u.src
              · exact ⟨⟨u.code, true, u.dst⟩, by simp⟩
              · rw [h2] at hw; cases hw
          obtain ⟨q, hq⟩ := this
          exact ⟨q, List.mem_flatMap.2 ⟨u, hu, hq⟩, by rw [(port_of hq).1, p1]; simp⟩
      have ih' := ih (fun v hv => hm v (by simp [hv]))
      unfold portsL at ih' ⊢
      rw [List.flatMap_cons, List.filter_append, ← ih', List.filter_cons]
      cases hw : wIn l g.of u with
      | true =>
        rw [if_pos rfl, List.flatMap_cons]
        congr 1
        refine (List.filter_eq_self.2 (fun p hp => ?_)).symm
        have h5 := hsh p hp
        unfold portsL at h5
        rw [h5, hw]; rfl
      | false =>
        rw [if_neg (by simp)]
        have : (portOf l g.id u).filter (fun p => !(ws.flatMap (portOf l g.of)).any (fun q => q.wire == p.wire)) = [] := by
          rw [List.filter_eq_nil_iff]
          intro p hp
          have h5 := hsh p hp
          unfold portsL at h5
          rw [h5, hw]; simp
        rw [this]; rfl
  exact main ws (fun u hu => hu)
theorem in_nested {l : List Grp} (h : Valid l) {g : Grp} (hg : g ∈ l) (ho : g.of ≠ -1) (ds : List Dev) (ws : List Wir) : (ds.filter (dIn l g.of)).filter (dIn l g.id) = ds.filter (dIn l g.id) ∧ (ws.filter (wIn l g.of)).filter (wIn l g.id) = ws.filter (wIn l g.id) := by
  constructor
  · rw [List.filter_filter]
    refine List.filter_congr (fun x _ => ?_)
    unfold dIn
    cases h1 : insB l g.id x.code
    · rfl
    · rw [ins_up h hg ho h1]; rfl
  · rw [List.filter_filter]
    refine List.filter_congr (fun x _ => ?_)
    unfold wIn
    cases h1 : insB l g.id x.src <;> cases h2 : insB l g.id x.dst <;> try rfl
    rw [ins_up h hg ho h1, ins_up h hg ho h2]; rfl
end Go.Proofs.Ytebfenkjipaedaa.Gr
