/- Three disks side by side. -/
import Derived.Test.YtndfakbklfidhaaDiskWs
namespace Go.Proofs.Ytndfakbklfidhaa
open Go.RowKit Dsk
theorem DiskAt.drew {w : World} {g : Nat} {F : List Nat} {D : Dk} (h : DiskAt w g F D) : DiskAt w.drew g F D := h.kept (Kept.refl [] _).drew (fun _ _ h => by cases h)
def Apart (A B : List Nat) : Prop := ∀ x ∈ A, x ∉ B
theorem Apart.symm {A B : List Nat} (h : Apart A B) : Apart B A := fun x hx hy => h x hy hx
theorem Apart.new {A A' B : List Nat} {w : World} (h : Apart A B) (n : New w A A') (hB : ∀ x ∈ B, x < w.heap.size) : Apart A' B := fun x hx hy => by
  rcases n x hx with k | k
  · exact h x k hy
  · have := hB x hy; omega
structure Trio (w0 w : World) (g1 g2 g3 : Nat) (F1 F2 F3 : List Nat) (D1 D2 D3 : Dk) : Prop where
  d1 : DiskAt w g1 F1 D1
  d2 : DiskAt w g2 F2 D2
  d3 : DiskAt w g3 F3 D3
  b1 : ∀ x ∈ F1, w0.heap.size ≤ x
  b2 : ∀ x ∈ F2, w0.heap.size ≤ x
  b3 : ∀ x ∈ F3, w0.heap.size ≤ x
  s12 : Apart F1 F2
  s13 : Apart F1 F3
  s23 : Apart F2 F3
  below : Below w0.heap.size w0 w
section
variable {w0 w w' : World} {g1 g2 g3 : Nat} {F1 F2 F3 F' : List Nat} {D1 D2 D3 D' : Dk}
theorem Trio.quiet (h : Trio w0 w g1 g2 g3 F1 F2 F3 D1 D2 D3) (k : Below w.heap.size w w') : Trio w0 w' g1 g2 g3 F1 F2 F3 D1 D2 D3 :=
  ⟨h.d1.below k, h.d2.below k, h.d3.below k, h.b1, h.b2, h.b3, h.s12, h.s13, h.s23, below_next h.below k⟩
theorem Trio.drew (h : Trio w0 w g1 g2 g3 F1 F2 F3 D1 D2 D3) : Trio w0 w.drew g1 g2 g3 F1 F2 F3 D1 D2 D3 := h.quiet (Below.refl _ _).drew
theorem Trio.t1 (h : Trio w0 w g1 g2 g3 F1 F2 F3 D1 D2 D3) (d : DiskAt w' g1 F' D') (k : Kept F1 w w') (n : New w F1 F') : Trio w0 w' g1 g2 g3 F' F2 F3 D' D2 D3 := by
  obtain ⟨q1, q2⟩ := turn_next h.below h.b1 k n
  exact ⟨d, h.d2.kept k h.s12.symm, h.d3.kept k h.s13.symm, q2, h.b2, h.b3, h.s12.new n h.d2.lt, h.s13.new n h.d3.lt, h.s23, q1⟩
theorem Trio.t2 (h : Trio w0 w g1 g2 g3 F1 F2 F3 D1 D2 D3) (d : DiskAt w' g2 F' D') (k : Kept F2 w w') (n : New w F2 F') : Trio w0 w' g1 g2 g3 F1 F' F3 D1 D' D3 := by
  obtain ⟨q1, q2⟩ := turn_next h.below h.b2 k n
  exact ⟨h.d1.kept k h.s12, d, h.d3.kept k h.s23.symm, h.b1, q2, h.b3, (h.s12.symm.new n h.d1.lt).symm, h.s13, h.s23.new n h.d3.lt, q1⟩
theorem Trio.t3 (h : Trio w0 w g1 g2 g3 F1 F2 F3 D1 D2 D3) (d : DiskAt w' g3 F' D') (k : Kept F3 w w') (n : New w F3 F') : Trio w0 w' g1 g2 g3 F1 F2 F' D1 D2 D' := by
  obtain ⟨q1, q2⟩ := turn_next h.below h.b3 k n
  exact ⟨h.d1.kept k h.s13, h.d2.kept k h.s23, d, h.b1, h.b2, q2, h.s12, (h.s13.symm.new n h.d1.lt).symm, (h.s23.symm.new n h.d2.lt).symm, q1⟩
/-- a block beside the three disks -/
def Out (b : Nat) (F1 F2 F3 : List Nat) : Prop := b ∉ F1 ∧ b ∉ F2 ∧ b ∉ F3
theorem Trio.out (h : Trio w0 w g1 g2 g3 F1 F2 F3 D1 D2 D3) {b : Nat} (hb : w.heap.size ≤ b) : Out b F1 F2 F3 :=
  ⟨fun e => by have := h.d1.lt b e; omega, fun e => by have := h.d2.lt b e; omega, fun e => by have := h.d3.lt b e; omega⟩
end
theorem nin_new {w : World} {F F' : List Nat} {b : Nat} (h : b ∉ F) (n : New w F F') (hb : b < w.heap.size) : b ∉ F' := fun e => by
  rcases n b e with k | k
  · exact h k
  · omega
/-- the three cells of a box -/
def Box3 (w : World) (b : Nat) (a c d : Value) : Prop := w.cell? ⟨b, 0, none⟩ = some a ∧ w.cell? ⟨b, 1, none⟩ = some c ∧ w.cell? ⟨b, 2, none⟩ = some d
theorem Box3.kept {w w' : World} {b : Nat} {a c d : Value} {F : List Nat} (h : Box3 w b a c d) (k : Kept F w w') (hn : b ∉ F) : Box3 w' b a c d := ⟨k.cell h.1 hn, k.cell h.2.1 hn, k.cell h.2.2 hn⟩
theorem on_cr {D : Dk} {n k : Nat} (h : On D n k) (t : Int) : On (cr D [] t) n k := by
  rw [cr_nil]; exact ⟨rfl, rfl, h.2.2.1, by simp⟩
end Go.Proofs.Ytndfakbklfidhaa
