/- A row of integers in a block of its own. No program stands here. -/
import Derived.Test.YtebfenkjipaedaaMem
import Derived.Laws.OwnMore
import Derived.Deep.AppendLies
import Derived.OwnWalk
namespace Go.Proofs.Ytebfenkjipaedaa
open Go.RowKit
/-- n cells of integers in a row -/
def ArrN (W : World) (g n : Nat) (f : Nat → Int) : Prop := ∀ j, j < n → W.cell? ⟨g, j, none⟩ = some (.int .i64 (f j)) ∧ W.frozen? ⟨g, j, none⟩ = false
theorem ArrN.then_ {W W' : World} {g n : Nat} {f : Nat → Int} (h : ArrN W g n f) (hb : Below W.heap.size W W') : ArrN W' g n f := fun j hj => var_then hb (h j hj)
theorem ArrN.other {W : World} {g n : Nat} {f : Nat → Int} (h : ArrN W g n f) {p : Addr} (hp : g ≠ p.block) (x : Value) : ArrN (W.setCell p x) g n f := fun j hj =>
  ⟨cell_set x (h j hj).1 hp, by rw [frozen_set]; exact (h j hj).2⟩
theorem ArrN.set_ {W : World} {g n : Nat} {f : Nat → Int} (h : ArrN W g n f) {i : Nat} (hi : i < n) (v : Int) : ArrN (W.setCell ⟨g, i, none⟩ (.int .i64 v)) g n (fun j => if j = i then v else f j) := fun j hj => by
  refine ⟨?_, by rw [frozen_set]; exact (h j hj).2⟩
  by_cases e : j = i
  · subst e
    dsimp only
    rw [if_pos rfl]
    simp [go_sem, (h j hj).1]
  · dsimp only
    rw [if_neg e]
    exact (World.cell?_setCell_other _ _ _ _ (fun e' => e (by injection e'; omega))).trans (h j hj).1
theorem ArrN.grown {W W' : World} {g n : Nat} {f : Nat → Int} {row : Option Nat} (h : ArrN W g n f) (hg : W.grownBy W' row) (hne : some g ≠ row) : ArrN W' g n f := fun j hj => by
  obtain ⟨h1, h2⟩ := h j hj
  have hlt := World.block_lt_of_cell? _ _ h1
  exact ⟨(hg.cell_far _ hlt hne).trans h1, (hg.frozen_far _ hlt hne).trans h2⟩
theorem own_then {w w' : World} {base : Nat} {e : TypeId} {size n : Nat} {v : Value} {xs : List Value} (h : w.ownsRow base e size v n xs) (hb : Below w.heap.size w w') : w'.ownsRow base e size v n xs := by
  refine ⟨h.1, ?_⟩
  rcases h.2 with h2 | ⟨g, cap, cur, h1, h2, h3, h4⟩
  · exact .inl h2
  · exact .inr ⟨g, cap, cur, h1, h2, (hb.block g (Array.getElem?_eq_some_iff.1 h3).1).trans h3, h4⟩
theorem own_set {w : World} {base : Nat} {e : TypeId} {size n : Nat} {v : Value} {xs : List Value} (h : w.ownsRow base e size v n xs) {p : Addr} (hne : v.ownBlock ≠ some p.block) (x : Value) : (w.setCell p x).ownsRow base e size v n xs := by
  refine ⟨h.1, ?_⟩
  rcases h.2 with h2 | ⟨g, cap, cur, rfl, h2, h3, h4⟩
  · exact .inl h2
  · exact .inr ⟨g, cap, cur, rfl, h2, (Below.heap_setCell w p x g (fun e => hne (by rw [← e]; rfl))).trans h3, h4⟩
theorem VarN.grown {W W' : World} {g n : Nat} {row : Option Nat} (h : VarN W g n) (hg : W.grownBy W' row) (hne : some g ≠ row) : VarN W' g n := fun i hi => by
  obtain ⟨⟨v, h1⟩, h2⟩ := h i hi
  have hlt := World.block_lt_of_cell? _ _ h1
  exact ⟨⟨v, (hg.cell_far _ hlt hne).trans h1⟩, (hg.frozen_far _ hlt hne).trans h2⟩
theorem Var3.grown {W W' : World} {g : Nat} {row : Option Nat} (h : Var3 W g) (hg : W.grownBy W' row) (hne : some g ≠ row) : Var3 W' g := by
  unfold Var3 at h ⊢; exact VarN.grown h hg hne
theorem drew_cell {W : World} {a : Addr} {v : Value} (h : W.cell? a = some v) : W.drew.cell? a = some v := h
theorem cell_grown' {W W' : World} {a : Addr} {v : Value} {row : Option Nat} (h : W.cell? a = some v) (hg : W.grownBy W' row) (hne : some a.block ≠ row) : W'.cell? a = some v :=
  (hg.cell_far _ (World.block_lt_of_cell? _ _ h) hne).trans h
/-- the integers of a list, as values -/
def ivs (l : List Int) : List Value := l.map fun n => .int .i64 n
theorem ivs_append (a b : List Int) : ivs (a ++ b) = ivs a ++ ivs b := List.map_append
theorem ivs_length (l : List Int) : (ivs l).length = l.length := List.length_map _
/-- natural numbers as integers -/
def natI (l : List Nat) : List Int := l.map fun n : Nat => (n : Int)
theorem natI_length (l : List Nat) : (natI l).length = l.length := List.length_map _
theorem natI_append (a b : List Nat) : natI (a ++ b) = natI a ++ natI b := List.map_append
/-- a list of integers in memory -/
def IntsAt (w : World) (A : Option Addr) (l : List Int) : Prop := ∀ i, i < l.length → ∃ b o, A = some ⟨b, o, none⟩ ∧ w.cell? ⟨b, o + i, none⟩ = some (.int .i64 (l.getD i 0))
theorem IntsAt.then_ {w w' : World} {A : Option Addr} {l : List Int} (h : IntsAt w A l) (hb : Below w.heap.size w w') : IntsAt w' A l := fun i hi => by
  obtain ⟨b, o, hA, hc⟩ := h i hi
  exact ⟨b, o, hA, cell_then hb hc⟩
theorem ints_of_own {w : World} {base g cap n : Nat} {e : TypeId} {l : List Int} (h : w.ownsRow base e 1 (.slice (some ⟨g, 0, none⟩) n cap) n (ivs l)) : IntsAt w (some ⟨g, 0, none⟩) l := fun i hi => by
  have hl := h.1
  rw [ivs_length, Nat.mul_one] at hl
  refine ⟨g, 0, rfl, ?_⟩
  rw [Nat.zero_add, h.cellAt i (by omega), ivs, List.getElem?_map, List.getElem?_eq_getElem hi]
  simp [List.getD, List.getElem?_eq_getElem hi]
end Go.Proofs.Ytebfenkjipaedaa
