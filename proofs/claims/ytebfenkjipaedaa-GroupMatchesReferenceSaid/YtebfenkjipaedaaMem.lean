/- Words for memory in a walk: a variable of some cells whose content is left open; what lies on behind a call, a store, a new block. No program stands here. -/
import Derived.WalkKit
import Derived.KernelRfl
import Derived.Below
import Derived.Carry
import Derived.Lib.Hide
namespace Go.Proofs.Ytebfenkjipaedaa
open Go.RowKit
theorem keep_alloc {W : World} {a : Addr} {v : Value} (o : Obj) (h : W.cell? a = some v) : (W.alloc o).cell? a = some v := ((Below.refl W.heap.size W).alloc (Nat.le_refl _) o).cell (World.block_lt_of_cell? _ _ h) |>.trans h
theorem cell_then {w wx : World} {a : Addr} {v : Value} (hb : Below w.heap.size w wx) (h : w.cell? a = some v) : wx.cell? a = some v := (hb.cell (World.block_lt_of_cell? _ _ h)).trans h
theorem below_next {a b c : World} {B : Nat} (h : Below B a b) (k : Below b.heap.size b c) (hB : B ≤ a.heap.size := by exact Nat.le_refl _) : Below B a c := h.trans (k.mono (Nat.le_trans hB h.size))
theorem below_alloc {a w : World} (h : Below a.heap.size a w) (o : Obj) : Below a.heap.size a (w.alloc o) := h.alloc h.size o
theorem both {p q p' q' : Prop} (h1 : p → p') (h2 : q → q') (h : p ∧ q) : p' ∧ q' := ⟨h1 h.1, h2 h.2⟩
theorem var_then {w wx : World} {a : Addr} {v : Value} (hb : Below w.heap.size w wx) (h : w.cell? a = some v ∧ w.frozen? a = false) : wx.cell? a = some v ∧ wx.frozen? a = false :=
  ⟨cell_then hb h.1, (hb.frozen (World.block_lt_of_cell? _ _ h.1)).trans h.2⟩
theorem bcell {W w1 : World} (hb : Below W.heap.size W w1) : (∀ b o, b < W.heap.size → w1.cell? ⟨b, o, none⟩ = W.cell? ⟨b, o, none⟩) ∧ (∀ b o, b < W.heap.size → w1.frozen? ⟨b, o, none⟩ = W.frozen? ⟨b, o, none⟩) :=
  ⟨fun b o h => hb.cell (p := ⟨b, o, none⟩) h, fun b o h => hb.frozen (p := ⟨b, o, none⟩) h⟩
theorem ret_bool {a b : Bool} (h : a = b) : Ending.returned (.bool a) = .returned (.bool b) := by rw [h]
theorem ret_int {k : IntKind} {a b : Int} (h : a = b) : Ending.returned (.int k a) = .returned (.int k b) := by rw [h]
theorem cell_set {w : World} {a p : Addr} {v : Value} (x : Value) (h : w.cell? a = some v) (hne : a.block ≠ p.block) : (w.setCell p x).cell? a = some v :=
  (World.cell?_setCell_other w p a x (fun e => hne (by rw [e]))).trans h

theorem and_then {p q : Prop} (h : p) (k : p → q) : p ∧ q := ⟨h, k h⟩
/-- what a cell holds, as a word of its own -/
@[irreducible] def curV (w : World) (a : Addr) : Value := (w.cell? a).getD undef
theorem curV_spec {w : World} {a : Addr} {v : Value} (h : w.cell? a = some v) : w.cell? a = some (curV w a) := by unfold curV; rw [h]; rfl
/-- n cells that may be written; what they hold is left open -/
def VarN (w : World) (g n : Nat) : Prop := ∀ i, i < n → (∃ v, w.cell? ⟨g, i, none⟩ = some v) ∧ w.frozen? ⟨g, i, none⟩ = false
@[irreducible] def Var1 (w : World) (g : Nat) : Prop := VarN w g 1
@[irreducible] def Var2 (w : World) (g : Nat) : Prop := VarN w g 2
@[irreducible] def Var3 (w : World) (g : Nat) : Prop := VarN w g 3
@[irreducible] def Var4 (w : World) (g : Nat) : Prop := VarN w g 4
section
variable {w wx : World} {g n : Nat}
theorem VarN.cell (h : VarN w g n) {i : Nat} (hi : i < n) : w.cell? ⟨g, i, none⟩ = some (curV w ⟨g, i, none⟩) := by
  obtain ⟨⟨v, h1⟩, _⟩ := h i hi
  exact curV_spec h1
theorem VarN.then_ (h : VarN w g n) (hb : Below w.heap.size w wx) : VarN wx g n := fun i hi => by
  obtain ⟨⟨v, h1⟩, h2⟩ := h i hi
  have := var_then hb ⟨h1, h2⟩
  exact ⟨⟨v, this.1⟩, this.2⟩
theorem frozen_set (w : World) (p a : Addr) (x : Value) : (w.setCell p x).frozen? a = w.frozen? a := by simp [go_sem]
theorem VarN.set_ (h : VarN w g n) (p : Addr) (x : Value) : VarN (w.setCell p x) g n := fun i hi => by
  obtain ⟨⟨v, h1⟩, h2⟩ := h i hi
  refine ⟨cell?_setCell_some h1, ?_⟩
  rw [frozen_set]; exact h2
theorem VarN.alloc (h : VarN w g n) (o : Obj) : VarN (w.alloc o) g n := h.then_ ((Below.refl _ _).alloc (Nat.le_refl _) o)
theorem VarN.of (h : ∀ i, i < n → ∃ v, w.cell? ⟨g, i, none⟩ = some v ∧ w.frozen? ⟨g, i, none⟩ = false) : VarN w g n := fun i hi => by
  obtain ⟨v, h1, h2⟩ := h i hi
  exact ⟨⟨v, h1⟩, h2⟩
end
section
variable {w wx : World} {g : Nat}
theorem Var1.c0 (h : Var1 w g) : w.cell? ⟨g, 0, none⟩ = some (curV w ⟨g, 0, none⟩) := by unfold Var1 at h; exact h.cell (by omega)
theorem Var1.f0 (h : Var1 w g) : w.frozen? ⟨g, 0, none⟩ = false := by unfold Var1 at h; exact (h 0 (by omega)).2
theorem Var1.then_ (h : Var1 w g) (hb : Below w.heap.size w wx) : Var1 wx g := by unfold Var1 at h ⊢; exact VarN.then_ h hb
theorem Var1.set_ (h : Var1 w g) (p : Addr) (x : Value) : Var1 (w.setCell p x) g := by unfold Var1 at h ⊢; exact VarN.set_ h p x
theorem Var1.alloc (h : Var1 w g) (o : Obj) : Var1 (w.alloc o) g := by unfold Var1 at h ⊢; exact VarN.alloc h o
theorem Var1.drew (h : Var1 w g) : Var1 w.drew g := by unfold Var1 at h ⊢; exact h
theorem Var1.of {v0 : Value} (c0 : w.cell? ⟨g, 0, none⟩ = some v0 ∧ w.frozen? ⟨g, 0, none⟩ = false) : Var1 w g := by
  unfold Var1
  refine VarN.of fun i hi => ?_
  obtain rfl : i = 0 := by omega
  exact ⟨_, c0⟩
end
section
variable {w wx : World} {g : Nat}
theorem Var2.c0 (h : Var2 w g) : w.cell? ⟨g, 0, none⟩ = some (curV w ⟨g, 0, none⟩) := by unfold Var2 at h; exact h.cell (by omega)
theorem Var2.f0 (h : Var2 w g) : w.frozen? ⟨g, 0, none⟩ = false := by unfold Var2 at h; exact (h 0 (by omega)).2
theorem Var2.c1 (h : Var2 w g) : w.cell? ⟨g, 1, none⟩ = some (curV w ⟨g, 1, none⟩) := by unfold Var2 at h; exact h.cell (by omega)
theorem Var2.f1 (h : Var2 w g) : w.frozen? ⟨g, 1, none⟩ = false := by unfold Var2 at h; exact (h 1 (by omega)).2
theorem Var2.then_ (h : Var2 w g) (hb : Below w.heap.size w wx) : Var2 wx g := by unfold Var2 at h ⊢; exact VarN.then_ h hb
theorem Var2.set_ (h : Var2 w g) (p : Addr) (x : Value) : Var2 (w.setCell p x) g := by unfold Var2 at h ⊢; exact VarN.set_ h p x
theorem Var2.alloc (h : Var2 w g) (o : Obj) : Var2 (w.alloc o) g := by unfold Var2 at h ⊢; exact VarN.alloc h o
theorem Var2.drew (h : Var2 w g) : Var2 w.drew g := by unfold Var2 at h ⊢; exact h
theorem Var2.of {v0 : Value} (c0 : w.cell? ⟨g, 0, none⟩ = some v0 ∧ w.frozen? ⟨g, 0, none⟩ = false) {v1 : Value} (c1 : w.cell? ⟨g, 1, none⟩ = some v1 ∧ w.frozen? ⟨g, 1, none⟩ = false) : Var2 w g := by
  unfold Var2
  refine VarN.of fun i hi => ?_
  rcases (show i = 0 ∨ i = 1 by omega) with rfl | rfl
  · exact ⟨_, c0⟩
  · exact ⟨_, c1⟩
end
section
variable {w wx : World} {g : Nat}
theorem Var3.c0 (h : Var3 w g) : w.cell? ⟨g, 0, none⟩ = some (curV w ⟨g, 0, none⟩) := by unfold Var3 at h; exact h.cell (by omega)
theorem Var3.f0 (h : Var3 w g) : w.frozen? ⟨g, 0, none⟩ = false := by unfold Var3 at h; exact (h 0 (by omega)).2
theorem Var3.c1 (h : Var3 w g) : w.cell? ⟨g, 1, none⟩ = some (curV w ⟨g, 1, none⟩) := by unfold Var3 at h; exact h.cell (by omega)
theorem Var3.f1 (h : Var3 w g) : w.frozen? ⟨g, 1, none⟩ = false := by unfold Var3 at h; exact (h 1 (by omega)).2
theorem Var3.c2 (h : Var3 w g) : w.cell? ⟨g, 2, none⟩ = some (curV w ⟨g, 2, none⟩) := by unfold Var3 at h; exact h.cell (by omega)
theorem Var3.f2 (h : Var3 w g) : w.frozen? ⟨g, 2, none⟩ = false := by unfold Var3 at h; exact (h 2 (by omega)).2
theorem Var3.then_ (h : Var3 w g) (hb : Below w.heap.size w wx) : Var3 wx g := by unfold Var3 at h ⊢; exact VarN.then_ h hb
theorem Var3.set_ (h : Var3 w g) (p : Addr) (x : Value) : Var3 (w.setCell p x) g := by unfold Var3 at h ⊢; exact VarN.set_ h p x
theorem Var3.alloc (h : Var3 w g) (o : Obj) : Var3 (w.alloc o) g := by unfold Var3 at h ⊢; exact VarN.alloc h o
theorem Var3.drew (h : Var3 w g) : Var3 w.drew g := by unfold Var3 at h ⊢; exact h
theorem Var3.of {v0 : Value} (c0 : w.cell? ⟨g, 0, none⟩ = some v0 ∧ w.frozen? ⟨g, 0, none⟩ = false) {v1 : Value} (c1 : w.cell? ⟨g, 1, none⟩ = some v1 ∧ w.frozen? ⟨g, 1, none⟩ = false) {v2 : Value} (c2 : w.cell? ⟨g, 2, none⟩ = some v2 ∧ w.frozen? ⟨g, 2, none⟩ = false) : Var3 w g := by
  unfold Var3
  refine VarN.of fun i hi => ?_
  rcases (show i = 0 ∨ i = 1 ∨ i = 2 by omega) with rfl | rfl | rfl
  · exact ⟨_, c0⟩
  · exact ⟨_, c1⟩
  · exact ⟨_, c2⟩
end
section
variable {w wx : World} {g : Nat}
theorem Var4.c0 (h : Var4 w g) : w.cell? ⟨g, 0, none⟩ = some (curV w ⟨g, 0, none⟩) := by unfold Var4 at h; exact h.cell (by omega)
theorem Var4.f0 (h : Var4 w g) : w.frozen? ⟨g, 0, none⟩ = false := by unfold Var4 at h; exact (h 0 (by omega)).2
theorem Var4.c1 (h : Var4 w g) : w.cell? ⟨g, 1, none⟩ = some (curV w ⟨g, 1, none⟩) := by unfold Var4 at h; exact h.cell (by omega)
theorem Var4.f1 (h : Var4 w g) : w.frozen? ⟨g, 1, none⟩ = false := by unfold Var4 at h; exact (h 1 (by omega)).2
theorem Var4.c2 (h : Var4 w g) : w.cell? ⟨g, 2, none⟩ = some (curV w ⟨g, 2, none⟩) := by unfold Var4 at h; exact h.cell (by omega)
theorem Var4.f2 (h : Var4 w g) : w.frozen? ⟨g, 2, none⟩ = false := by unfold Var4 at h; exact (h 2 (by omega)).2
theorem Var4.c3 (h : Var4 w g) : w.cell? ⟨g, 3, none⟩ = some (curV w ⟨g, 3, none⟩) := by unfold Var4 at h; exact h.cell (by omega)
theorem Var4.f3 (h : Var4 w g) : w.frozen? ⟨g, 3, none⟩ = false := by unfold Var4 at h; exact (h 3 (by omega)).2
theorem Var4.then_ (h : Var4 w g) (hb : Below w.heap.size w wx) : Var4 wx g := by unfold Var4 at h ⊢; exact VarN.then_ h hb
theorem Var4.set_ (h : Var4 w g) (p : Addr) (x : Value) : Var4 (w.setCell p x) g := by unfold Var4 at h ⊢; exact VarN.set_ h p x
theorem Var4.alloc (h : Var4 w g) (o : Obj) : Var4 (w.alloc o) g := by unfold Var4 at h ⊢; exact VarN.alloc h o
theorem Var4.drew (h : Var4 w g) : Var4 w.drew g := by unfold Var4 at h ⊢; exact h
theorem Var4.of {v0 : Value} (c0 : w.cell? ⟨g, 0, none⟩ = some v0 ∧ w.frozen? ⟨g, 0, none⟩ = false) {v1 : Value} (c1 : w.cell? ⟨g, 1, none⟩ = some v1 ∧ w.frozen? ⟨g, 1, none⟩ = false) {v2 : Value} (c2 : w.cell? ⟨g, 2, none⟩ = some v2 ∧ w.frozen? ⟨g, 2, none⟩ = false) {v3 : Value} (c3 : w.cell? ⟨g, 3, none⟩ = some v3 ∧ w.frozen? ⟨g, 3, none⟩ = false) : Var4 w g := by
  unfold Var4
  refine VarN.of fun i hi => ?_
  rcases (show i = 0 ∨ i = 1 ∨ i = 2 ∨ i = 3 by omega) with rfl | rfl | rfl | rfl
  · exact ⟨_, c0⟩
  · exact ⟨_, c1⟩
  · exact ⟨_, c2⟩
  · exact ⟨_, c3⟩
end
theorem Var1.new (w : World) (v0 : Value) (t : TypeId) : Var1 (w.alloc (.cells #[v0] t)) w.heap.size :=
  Var1.of (v0 := v0) (by simp [go_sem])
theorem Var2.new (w : World) (v0 v1 : Value) (t : TypeId) : Var2 (w.alloc (.cells #[v0, v1] t)) w.heap.size :=
  Var2.of (v0 := v0) (by simp [go_sem]) (v1 := v1) (by simp [go_sem])
theorem Var3.new (w : World) (v0 v1 v2 : Value) (t : TypeId) : Var3 (w.alloc (.cells #[v0, v1, v2] t)) w.heap.size :=
  Var3.of (v0 := v0) (by simp [go_sem]) (v1 := v1) (by simp [go_sem]) (v2 := v2) (by simp [go_sem])
theorem Var4.new (w : World) (v0 v1 v2 v3 : Value) (t : TypeId) : Var4 (w.alloc (.cells #[v0, v1, v2, v3] t)) w.heap.size :=
  Var4.of (v0 := v0) (by simp [go_sem]) (v1 := v1) (by simp [go_sem]) (v2 := v2) (by simp [go_sem]) (v3 := v3) (by simp [go_sem])
theorem Var2.set2 {w : World} {g : Nat} (h : Var2 w g) (p q : Addr) (x y : Value) : Var2 ((w.setCell p x).setCell q y) g := (h.set_ p x).set_ q y
theorem Var2.new_set2 (w : World) (v0 v1 : Value) (t : TypeId) (p q : Addr) (x y : Value) : Var2 (((w.alloc (.cells #[v0, v1] t)).setCell p x).setCell q y) w.heap.size := (Var2.new w v0 v1 t).set2 p q x y
theorem Var2.alloc_set2 {w : World} {g : Nat} (h : Var2 w g) (o : Obj) (p q : Addr) (x y : Value) : Var2 (((w.alloc o).setCell p x).setCell q y) g := (h.alloc o).set2 p q x y
theorem Var1.s0 {w : World} {g : Nat} (h : Var1 w g) (x : Value) : (w.setCell ⟨g, 0, none⟩ x).cell? ⟨g, 0, none⟩ = some x := by simp [go_sem, h.c0]
theorem Var2.s0 {w : World} {g : Nat} (h : Var2 w g) (x : Value) : (w.setCell ⟨g, 0, none⟩ x).cell? ⟨g, 0, none⟩ = some x := by simp [go_sem, h.c0]
theorem Var2.s1 {w : World} {g : Nat} (h : Var2 w g) (x : Value) : (w.setCell ⟨g, 1, none⟩ x).cell? ⟨g, 1, none⟩ = some x := by simp [go_sem, h.c1]
theorem Var3.s0 {w : World} {g : Nat} (h : Var3 w g) (x : Value) : (w.setCell ⟨g, 0, none⟩ x).cell? ⟨g, 0, none⟩ = some x := by simp [go_sem, h.c0]
theorem Var3.s1 {w : World} {g : Nat} (h : Var3 w g) (x : Value) : (w.setCell ⟨g, 1, none⟩ x).cell? ⟨g, 1, none⟩ = some x := by simp [go_sem, h.c1]
theorem Var3.s2 {w : World} {g : Nat} (h : Var3 w g) (x : Value) : (w.setCell ⟨g, 2, none⟩ x).cell? ⟨g, 2, none⟩ = some x := by simp [go_sem, h.c2]
theorem Var4.s0 {w : World} {g : Nat} (h : Var4 w g) (x : Value) : (w.setCell ⟨g, 0, none⟩ x).cell? ⟨g, 0, none⟩ = some x := by simp [go_sem, h.c0]
theorem Var4.s1 {w : World} {g : Nat} (h : Var4 w g) (x : Value) : (w.setCell ⟨g, 1, none⟩ x).cell? ⟨g, 1, none⟩ = some x := by simp [go_sem, h.c1]
theorem Var4.s2 {w : World} {g : Nat} (h : Var4 w g) (x : Value) : (w.setCell ⟨g, 2, none⟩ x).cell? ⟨g, 2, none⟩ = some x := by simp [go_sem, h.c2]
theorem Var4.s3 {w : World} {g : Nat} (h : Var4 w g) (x : Value) : (w.setCell ⟨g, 3, none⟩ x).cell? ⟨g, 3, none⟩ = some x := by simp [go_sem, h.c3]
theorem cell_off {w : World} {g i j : Nat} {v : Value} (x : Value) (h : w.cell? ⟨g, i, none⟩ = some v) (hne : i ≠ j) : (w.setCell ⟨g, j, none⟩ x).cell? ⟨g, i, none⟩ = some v :=
  (World.cell?_setCell_other w _ _ x (fun e => hne (by injection e; omega))).trans h
theorem new_cell {w : World} {l : Array Value} {t : TypeId} {i : Nat} {v : Value} (h : l[i]? = some v) : (w.alloc (.cells l t)).cell? ⟨w.heap.size, i, none⟩ = some v := by simp [go_sem, h]
theorem new_cell' {w : World} {o : Obj} {l : Array Value} {t : TypeId} {i : Nat} {v : Value} (h : l[i]? = some v) : ((w.alloc o).alloc (.cells l t)).cell? ⟨w.heap.size + 1, i, none⟩ = some v := by
  have := new_cell (w := w.alloc o) (t := t) h
  simpa using this
theorem Var2.new' (w : World) (o : Obj) (v0 v1 : Value) (t : TypeId) : Var2 ((w.alloc o).alloc (.cells #[v0, v1] t)) (w.heap.size + 1) := by
  have := Var2.new (w.alloc o) v0 v1 t
  simpa using this
theorem ne_new {w : World} {g i : Nat} {v : Value} (h : w.cell? ⟨g, i, none⟩ = some v) : g ≠ w.heap.size := Nat.ne_of_lt (World.block_lt_of_cell? w ⟨g, i, none⟩ h)
theorem lt_size {w : World} {g i : Nat} {v : Value} (h : w.cell? ⟨g, i, none⟩ = some v) : g < w.heap.size := World.block_lt_of_cell? w ⟨g, i, none⟩ h
end Go.Proofs.Ytebfenkjipaedaa
