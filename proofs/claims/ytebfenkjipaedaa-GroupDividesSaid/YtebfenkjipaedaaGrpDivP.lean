/- A net divided: inside, outside, ports. Plain. -/
import Derived.Test.YtebfenkjipaedaaGrpInP
namespace Go.Proofs.Ytebfenkjipaedaa.Gr
open Go.RowKit Gp Go.Sort
theorem div_len {α : Type} (f : α → Bool) : ∀ l : List α, (l.filter f).length + (l.filter (fun x => !f x)).length = l.length
  | [] => rfl
  | x :: t => by
    have := div_len f t
    rw [List.filter_cons, List.filter_cons]
    cases h : f x
    · simp only [Bool.false_eq_true, if_false, Bool.not_false, if_true, List.length_cons]; omega
    · simp only [if_true, Bool.not_true, Bool.false_eq_true, if_false, List.length_cons]; omega
/-- where an element that the test takes comes to lie -/
theorem filter_at {α : Type} (f : α → Bool) (d : α) : ∀ (l : List α) (i : Nat), i < l.length → f (l.getD i d) = true → ((l.take i).filter f).length < (l.filter f).length ∧ (l.filter f).getD ((l.take i).filter f).length d = l.getD i d
  | [], i, h, _ => by simp at h
  | x :: t, 0, _, hf => by
    have : f x = true := hf
    rw [List.filter_cons, if_pos this]
    exact ⟨by simp, rfl⟩
  | x :: t, i + 1, h, hf => by
    have ih := filter_at f d t i (by simpa using h) hf
    rw [List.take_succ_cons, List.filter_cons, List.filter_cons, List.getD_cons_succ]
    cases hx : f x
    · simp only [Bool.false_eq_true, if_false]; exact ih
    · simp only [if_true, List.length_cons, List.getD_cons_succ]
      exact ⟨by omega, ih.2⟩
theorem flat_one {α β : Type} (F : α → List β) (P : β → Bool) (x : α) : ∀ ws : List α, ws.Pairwise (fun u v => u ≠ v) → x ∈ ws → (∀ u ∈ ws, u ≠ x → ∀ b ∈ F u, P b = false) → (∀ b ∈ F x, P b = true) → ((ws.flatMap F).filter P).length = (F x).length
  | [], _, h, _, _ => by cases h
  | u :: t, hp, hx, h1, h2 => by
    rw [List.pairwise_cons] at hp
    rw [List.flatMap_cons, List.filter_append, List.length_append]
    have hnil : ∀ t : List α, (∀ v ∈ t, v ≠ x ∧ ∀ b ∈ F v, P b = false) → (t.flatMap F).filter P = [] := fun t ht => by
      rw [List.filter_eq_nil_iff]
      intro b hb
      obtain ⟨v, hv, hbv⟩ := List.mem_flatMap.1 hb
      rw [(ht v hv).2 b hbv]; simp
    by_cases e : u = x
    · subst e
      rw [List.filter_eq_self.2 h2, hnil t (fun v hv => ⟨(hp.1 v hv).symm, h1 v (by simp [hv]) (hp.1 v hv).symm⟩)]
      rfl
    · rcases List.mem_cons.1 hx with h | h
      · exact absurd h.symm e
      · rw [flat_one F P x t hp.2 h (fun v hv => h1 v (by simp [hv])) h2, List.filter_eq_nil_iff.2 (fun b hb => by rw [h1 u (by simp) e b hb]; simp)]
        simp
theorem filter_flat {α : Type} (f : α → Bool) : ∀ l : List α, l.filter f = l.flatMap (fun u => if f u then [u] else [])
  | [] => rfl
  | x :: t => by
    rw [List.filter_cons, List.flatMap_cons, filter_flat f t]
    cases f x <;> rfl
/-- equal wires, as the program compares them -/
def wEq (u v : Wir) : Bool := decide (u.code = v.code ∧ u.src = v.src ∧ u.out = v.out ∧ u.dst = v.dst ∧ u.inp = v.inp ∧ u.delay = v.delay)
/-- a port of a wire -/
def pEq (p : Prt) (u : Wir) : Bool := p.wire == u.code && p.dev == (if p.inw then u.dst else u.src)
theorem rise_ne {ws : List Wir} (hr : riseB (ws.map (·.code)) = true) : ws.Pairwise (fun u v => u ≠ v) := by
  have key : ∀ {i j : Nat}, i < j → j < ws.length → (ws.getD i w0).code < (ws.getD j w0).code := by
    intro i j hij
    induction j with
    | zero => omega
    | succ j ih =>
      intro hj
      have h1 := riseB_iff.1 hr j (by rw [List.length_map]; exact hj)
      rw [getD_map (d := w0) (by omega), getD_map (d := w0) hj] at h1
      rcases Nat.lt_or_ge i j with h2 | h2
      · have := ih h2 (by omega); omega
      · obtain rfl : i = j := by omega
        exact h1
  rw [List.pairwise_iff_getElem]
  intro i j hi hj hij e
  have := key hij hj
  rw [getD_eq hi, getD_eq hj, e] at this
  omega
theorem wEq_self (u : Wir) : wEq u u = true := by unfold wEq; simp
theorem wEq_ne {ws : List Wir} (hr : riseB (ws.map (·.code)) = true) {u v : Wir} (hu : u ∈ ws) (hv : v ∈ ws) (hne : u ≠ v) : wEq u v = false := by
  unfold wEq
  exact decide_eq_false (fun h => hne (rise_inj hr hu hv h.1))
theorem cnt_filter {ws : List Wir} (hr : riseB (ws.map (·.code)) = true) (f : Wir → Bool) {x : Wir} (hx : x ∈ ws) : ((ws.filter f).filter (fun y => wEq y x)).length = (if f x then 1 else 0) := by
  rw [filter_flat f]
  rw [flat_one _ _ x ws (rise_ne hr) hx (fun u hu hne b hb => by
      split at hb
      · rw [List.mem_singleton.1 hb]; exact wEq_ne hr hu hx hne
      · cases hb) (fun b hb => by
      split at hb
      · rw [List.mem_singleton.1 hb]; exact wEq_self x
      · cases hb)]
  split <;> rfl
theorem cnt_ports {l : List Grp} {id : Int} {ws : List Wir} (hr : riseB (ws.map (·.code)) = true) {x : Wir} (hx : x ∈ ws) : ((portsL l id ws).filter (fun p => pEq p x)).length = (portOf l id x).length := by
  unfold portsL
  refine flat_one _ _ x ws (rise_ne hr) hx (fun u hu hne b hb => ?_) (fun b hb => ?_)
  · unfold pEq
    rw [(port_of hb).1]
    have : (u.code == x.code) = false := by
      rw [beq_eq_false_iff_ne]
      exact fun e => hne (rise_inj hr hu hx e)
    rw [this]; rfl
  · obtain ⟨h1, h2⟩ := port_of hb
    unfold pEq
    rw [h1]
    rcases h2 with ⟨i1, i2, _, _⟩ | ⟨i1, i2, _, _⟩ <;> rw [i1, i2] <;> simp
/-- GroupDivides, in plain words: the wires -/
theorem div_one {l : List Grp} {id : Int} {ws : List Wir} (hr : riseB (ws.map (·.code)) = true) {x : Wir} (hx : x ∈ ws) :
    ((ws.filter (wIn l id)).filter (fun y => wEq y x)).length + ((ws.filter (wOut l id)).filter (fun y => wEq y x)).length + ((portsL l id ws).filter (fun p => pEq p x)).length = 1 := by
  rw [cnt_filter hr _ hx, cnt_filter hr _ hx, cnt_ports hr hx]
  unfold wIn wOut portOf
  cases insB l id x.src <;> cases insB l id x.dst <;> rfl
theorem div_wires {l : List Grp} {id : Int} : ∀ ws : List Wir, (ws.filter (wIn l id)).length + (ws.filter (wOut l id)).length + (portsL l id ws).length = ws.length
  | [] => rfl
  | x :: t => by
    have ih := div_wires (l := l) (id := id) t
    have : (portsL l id (x :: t)).length = (portOf l id x).length + (portsL l id t).length := by
      unfold portsL; rw [List.flatMap_cons, List.length_append]
    rw [this, List.filter_cons, List.filter_cons, List.length_cons]
    unfold wIn wOut portOf at *
    cases h1 : insB l id x.src <;> cases h2 : insB l id x.dst <;> simp at ih ⊢ <;> omega
end Go.Proofs.Ytebfenkjipaedaa.Gr
