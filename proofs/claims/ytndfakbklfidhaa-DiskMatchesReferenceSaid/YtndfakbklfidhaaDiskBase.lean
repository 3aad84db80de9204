/- The small functions of package disk: check, inside, used, onto; what a world holds of a disk. -/
import Derived.Test.YtndfakbklfidhaaProg
import Derived.Test.YtndfakbklfidhaaDiskPlain
import Derived.Test.YtndfakbklfidhaaKept
import Derived.Test.YtndfakbklfidhaaHead
import Derived.WalkKit
import Derived.KernelRfl
import Derived.WalkSpells
import Derived.WalkLawsBesides
import Derived.Below
import Derived.Carry
import Derived.Lib.Hide
import Derived.BigRegion
import Derived.Deep.QuietTactic
import Derived.BigQuiet
import Derived.Deep.RegionHeld3
import Derived.Deep.DeepCutAuto
namespace Go.Proofs.Ytndfakbklfidhaa
open Go.RowKit Dsk
theorem check_nil (w : World) : Calls Try.prog 28 #[.pointer none] w fun e w' => e = .returned (.int .i64 1) ∧ w = w' := by
  go_enter Try.func28, Try.ntmps28
  go_wp2_with fail
  go_ret
  exact ⟨rfl, rfl⟩
theorem check_off (g : Nat) (w : World) (h : w.cell? ⟨g, 0, none⟩ = some (.bool true)) : Calls Try.prog 28 #[.pointer (some ⟨g, 0, none⟩)] w fun e w' => e = .returned (.int .i64 331) ∧ w = w' := by
  go_enter Try.func28, Try.ntmps28
  go_wp2_with fail
  go_ret
  exact ⟨rfl, rfl⟩
theorem check_ok (g : Nat) (w : World) (h : w.cell? ⟨g, 0, none⟩ = some (.bool false)) : Calls Try.prog 28 #[.pointer (some ⟨g, 0, none⟩)] w fun e w' => e = .returned (.int .i64 0) ∧ w = w' := by
  go_enter Try.func28, Try.ntmps28
  go_wp2_with fail
  go_ret
  exact ⟨rfl, rfl⟩
theorem inside_any (g : Nat) (A : Option Addr) (n c : Nat) (off k : Int) (w : World) (h : w.cell? ⟨g, 2, none⟩ = some (.slice A n c)) (hn : (n : Int) ≤ 4611686018427387904) :
    Calls Try.prog 29 #[.pointer (some ⟨g, 0, none⟩), .int .i64 off, .int .i64 k] w fun e w' => e = .returned (.bool (inB n off k)) ∧ w = w' := by
  by_cases h1 : 0 ≤ off
  · by_cases h2 : 0 ≤ k
    · by_cases h3 : off ≤ (n : Int)
      · by_cases h4 : k ≤ (n : Int) - off
        · rw [inB_iff.2 ⟨h1, h2, h3, h4⟩]
          go_enter Try.func29, Try.ntmps29
          go_wp2_with fail
          go_ret
          exact ⟨rfl, rfl⟩
        · rw [show inB n off k = false by simp [inB, h4]]
          go_enter Try.func29, Try.ntmps29
          go_wp2_with fail
          go_ret
          exact ⟨rfl, rfl⟩
      · rw [show inB n off k = false by simp [inB, h3]]
        go_enter Try.func29, Try.ntmps29
        go_wp2_with fail
        go_ret
        exact ⟨rfl, rfl⟩
    · rw [show inB n off k = false by simp [inB, h2]]
      go_enter Try.func29, Try.ntmps29
      go_wp2_with fail
      go_ret
      exact ⟨rfl, rfl⟩
  · rw [show inB n off k = false by simp [inB, h1]]
    go_enter Try.func29, Try.ntmps29
    go_wp2_with fail
    go_ret
    exact ⟨rfl, rfl⟩
/-- the power's two cells behind a write -/
theorem used_any (g : Nat) (b : Bool) (l : Int) (x2 x3 x4 : Value) (t : TypeId) (w : World) (h : w.heap[g]? = some (.cells #[.bool b, .int .i64 l, x2, x3, x4] t (0, 0))) (h0 : 0 ≤ l) (h1 : l ≤ 9223372036854775807) :
    Calls Try.prog 36 #[.pointer (some ⟨g, 0, none⟩)] w fun e w' => e = .returned (.tuple #[]) ∧
      w'.heap[g]? = some (.cells #[.bool (if l = 0 then b else l - 1 == 0), .int .i64 (if l = 0 then 0 else l - 1), x2, x3, x4] t (0, 0)) ∧ Kept [g] w w' := by
  have c0 := cell_of_row w g 0 _ t (0, 0) h
  have c1 := cell_of_row w g 1 _ t (0, 0) h
  have f0 := frozen_of_row w g 0 _ t h
  have f1 := frozen_of_row w g 1 _ t h
  simp only [List.getElem?_toArray, List.getElem?_cons_zero, List.getElem?_cons_succ] at c0 c1
  have H := Lib.hid h
  clear h
  by_cases hl : l = 0
  · subst hl
    go_enter Try.func36, Try.ntmps36
    go_wp2_with fail
    refine bodyPost_ret (results_none rfl _ _ _) rfl ?_
    exact ⟨rfl, by simpa using H.out, Kept.refl _ _⟩
  · have hl' : (l == 0) = false := by simpa using hl
    rw [if_neg hl, if_neg hl]
    clear hl
    go_enter Try.func36, Try.ntmps36
    go_wp2_with fail
    go_end0
    refine ⟨rfl, ?_, ((Kept.refl _ _).setCell (.inl (by simp)) _).setCell (.inl (by simp)) _⟩
    have h2 := heap_setCell_same w g 1 _ t (.int .i64 (l - 1)) H.out
    have h3 := heap_setCell_same _ g 0 _ t (.bool (l - 1 == 0)) h2
    simpa using h3
end Go.Proofs.Ytndfakbklfidhaa
