/- The group laws about nets: what they begin with; a group found. -/
import Derived.Test.YtebfenkjipaedaaGrpForL
import Derived.Test.YtebfenkjipaedaaGrpNet
import Derived.Test.YtebfenkjipaedaaGrpDivP
namespace Go.Proofs.Ytebfenkjipaedaa.Gr
open Go.RowKit Gp Go.Sort
attribute [local go_sem] Oper.semAt_some
/-- from one outward, s steps done: where it stands, whether y was met -/
structure Walk (l : List Grp) (x y : Int) (n0 : Bool) (s : Nat) (z : Int) (b : Bool) : Prop where
  le : s ≤ 12
  ok : okUp l (12 - s) z = true
  eq : (b || (up l (12 - s) z).contains y) = (n0 || (up l 12 x).contains y)
theorem Walk.start {l : List Grp} (h : Valid l) {g : Grp} (hg : g ∈ l) (y : Int) (n0 : Bool) : Walk l g.id y n0 0 g.id n0 := ⟨by omega, (valid_up h hg).1, rfl⟩
/-- one step on, or the end -/
theorem Walk.cases {l : List Grp} {x y : Int} {n0 : Bool} {s : Nat} {z : Int} {b : Bool} (hv : Valid l) (h : Walk l x y n0 s z b) : (idxI l z = -1 ∧ b = (n0 || (up l 12 x).contains y)) ∨
    ∃ k : Nat, k < l.length ∧ idxI l z = (k : Int) ∧ (l.getD k g0).id = z ∧ s < 12 ∧ Walk l x y n0 (s + 1) (l.getD k g0).of (b || z == y) := by
  obtain ⟨h1, h2, h3⟩ := h
  by_cases hz : z = -1
  · subst hz
    refine .inl ⟨idxI_none (fun j hj e => by have := (hv.pre.idr j hj).1; omega), ?_⟩
    rw [up_neg] at h3
    simpa using h3
  · obtain ⟨m, hm⟩ : ∃ m, 12 - s = m + 1 := by
      cases hs : 12 - s with
      | zero => rw [hs, okUp_zero hz] at h2; cases h2
      | succ m => exact ⟨m, rfl⟩
    rw [hm] at h2 h3
    rw [okUp_succ hz, Bool.and_eq_true] at h2
    rw [up_succ hz] at h3
    rcases idxI_cases l z with ⟨_, e⟩ | ⟨k, hk, e1, e2, e3⟩
    · rw [e] at h2; cases h2.1
    · have hof : ofI l z = (l.getD k g0).of := by unfold ofI; rw [e3]
      rw [hof] at h2 h3
      refine .inr ⟨k, hk, e1, e2, by omega, by omega, by rw [show 12 - (s + 1) = m by omega]; exact h2.2, ?_⟩
      rw [show 12 - (s + 1) = m by omega, ← h3, List.contains_cons]
      have : (z == y) = (y == z) := by rw [Bool.eq_iff_iff, beq_iff_eq, beq_iff_eq]; exact ⟨Eq.symm, Eq.symm⟩
      rw [this, Bool.or_assoc]
/-- whether y is met from x -/
def meetB (l : List Grp) (x y : Int) : Bool := (up l 12 x).contains y
theorem meet_ports {l : List Grp} (h : Valid l) {a b : Int} {ws : List Wir} (hr : riseB (ws.map (·.code)) = true) {x y : Prt} (hx : x ∈ portsL l a ws) (hy : y ∈ portsL l b ws) (e : x.wire = y.wire) :
    (x.inw == y.inw) = (meetB l a b || meetB l b a) := by
  rw [Bool.eq_iff_iff, beq_iff_eq, ports_dir h hr hx hy e, Bool.or_eq_true]
  unfold meetB
  rw [List.contains_iff_mem, List.contains_iff_mem]
/-- whether one of two groups lies in the other one, i rounds of the law's loop done -/
def nestB (l : List Grp) (a b : Int) : Nat → Bool
  | 0 => false
  | 1 => (false || meetB l a b)
  | _ => ((false || meetB l a b) || meetB l b a)
theorem nestB_two (l : List Grp) (a b : Int) : nestB l a b 2 = (meetB l a b || meetB l b a) := rfl
theorem portsL_len (l : List Grp) (id : Int) (ws : List Wir) : (portsL l id ws).length ≤ ws.length := by
  have h := portsN_len l id ws ws.length (Nat.le_refl _)
  unfold portsN at h
  rw [List.take_length] at h
  exact h
end Go.Proofs.Ytebfenkjipaedaa.Gr
