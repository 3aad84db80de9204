/- The closure in Crash: what it leaves out. -/
import Derived.Test.YtndfakbklfidhaaDiskAt
import Derived.Test.YtndfakbklfidhaaDiskOrd
import Derived.Shelf.GgClosure.Gives
namespace Go.Proofs.Ytndfakbklfidhaa
open Go.RowKit Dsk Go.Lib Go.Sort
theorem clo_gives (x : Int) (B g : Nat) (a : Option Addr) (n c : Nat) (W : World) (h0 : W.cell? ⟨B, 0, none⟩ = some (.pointer (some ⟨g, 0, none⟩))) (h4 : W.cell? ⟨g, 4, none⟩ = some (.slice a n c)) :
    FnGives Try.prog 42 #[.pointer (some ⟨B, 0, none⟩)] #[.int .i64 x] (.bool (outB n x)) W := by
  show Calls Try.prog 42 #[.int .i64 x, .pointer (some ⟨B, 0, none⟩)] W _
  by_cases h1 : x < 0
  · rw [show outB n x = true by simp [outB, h1]]
    go_enter Try.func42, Try.ntmps42
    go_wp2_with fail
    go_ret
    exact ⟨rfl, 0, rfl⟩
  · by_cases h2 : (n : Int) ≤ x
    · rw [show outB n x = true by simp [outB, h2]]
      go_enter Try.func42, Try.ntmps42
      go_wp2_with fail
      go_ret
      exact ⟨rfl, 0, rfl⟩
    · rw [show outB n x = false by simp [outB, h1, h2]]
      go_enter Try.func42, Try.ntmps42
      go_wp2_with fail
      go_ret
      exact ⟨rfl, 0, rfl⟩
theorem clo_at (B g : Nat) (a : Option Addr) (n c : Nat) (w : World) (h0 : w.cell? ⟨B, 0, none⟩ = some (.pointer (some ⟨g, 0, none⟩))) (h4 : w.cell? ⟨g, 4, none⟩ = some (.slice a n c)) :
    PredAt Try.prog 42 #[.pointer (some ⟨B, 0, none⟩)] (Value.int .i64) (outB n) w :=
  fun W x hb => clo_gives x B g a n c W (cell_then hb h0) (cell_then hb h4)
theorem clo_over (B g : Nat) (a : Option Addr) (n c blk off size : Nat) (w : World) (h0 : w.cell? ⟨B, 0, none⟩ = some (.pointer (some ⟨g, 0, none⟩))) (h4 : w.cell? ⟨g, 4, none⟩ = some (.slice a n c)) (hB : B ≠ blk) (hg : g ≠ blk) :
    PredOver Try.prog 42 #[.pointer (some ⟨B, 0, none⟩)] (Value.int .i64) (outB n) blk off size w := by
  have lB := lt_size h0
  have lg := lt_size h4
  refine fun m os dk x _ => clo_gives x B g a n c _ ?_ ?_
  · unfold sortWorld
    rw [cell?_grow _ _ _ (by show B < (putRow _ _ _ _ _).heap.size; rw [size_putRow]; exact lB), cell?_putRow_other _ _ blk off _ _ (Or.inl hB)]
    exact h0
  · unfold sortWorld
    rw [cell?_grow _ _ _ (by show g < (putRow _ _ _ _ _).heap.size; rw [size_putRow]; exact lg), cell?_putRow_other _ _ blk off _ _ (Or.inl hg)]
    exact h4
end Go.Proofs.Ytndfakbklfidhaa
