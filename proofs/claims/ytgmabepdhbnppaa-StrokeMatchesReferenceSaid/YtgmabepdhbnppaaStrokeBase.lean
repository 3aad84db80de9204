/- The small functions of package stroke: isIn, isPlace, at, near. -/
import Derived.Test.YtgmabepdhbnppaaProg
import Derived.Test.YtgmabepdhbnppaaStrokePlain
import Derived.Test.YtgmabepdhbnppaaMem
import Derived.WalkKit
import Derived.KernelRfl
import Derived.WalkSpells
import Derived.WalkLawsBesides
import Derived.Below
import Derived.Carry
import Derived.Lib.Hide
import Derived.BigRegion
import Derived.Deep.QuietTactic
import Derived.BigQuiet
import Derived.Deep.RegionHeld3
import Derived.Deep.DeepCutAuto
namespace Go.Proofs.Ytgmabepdhbnppaa
open Go.RowKit Str
theorem isIn_any (n lo hi : Int) (w : World) : Calls Try.prog 46 #[.int .i64 n, .int .i64 lo, .int .i64 hi] w fun e w' => e = .returned (.bool (isInB n lo hi)) ∧ w = w' := by
  by_cases h1 : lo ≤ n
  · by_cases h2 : n ≤ hi
    · rw [show isInB n lo hi = true from isInB_iff.2 ⟨h1, h2⟩]
      go_enter Try.func46, Try.ntmps46
      go_wp2_with fail
      go_ret
      exact ⟨rfl, rfl⟩
    · rw [show isInB n lo hi = false by simp [isInB, h2]]
      go_enter Try.func46, Try.ntmps46
      go_wp2_with fail
      go_ret
      exact ⟨rfl, rfl⟩
  · rw [show isInB n lo hi = false by simp [isInB, h1]]
    go_enter Try.func46, Try.ntmps46
    go_wp2_with fail
    go_ret
    exact ⟨rfl, rfl⟩
theorem place_any (x y : Int) (w : World) : Calls Try.prog 47 #[.agg #[.int .i64 x, .int .i64 y]] w fun e w' => e = .returned (.bool (placeB x y)) ∧ Below w.heap.size w w' := by
  cases hx : isInB x 0 4095 with
  | true =>
    rw [show placeB x y = isInB y 0 4095 by rw [placeB, hx, Bool.true_and]]
    go_enter Try.func47, Try.ntmps47
    go_wp2_with fail
    refine (isIn_any _ _ _ _).mono ?_
    rintro e w1 ⟨rfl, rfl⟩
    rw [hx]
    go_wp2_with fail
    refine (isIn_any _ _ _ _).mono ?_
    rintro e w1 ⟨rfl, rfl⟩
    go_wp2_with fail
    go_ret
    exact ⟨rfl, (Below.refl _ _).alloc (Nat.le_refl _) _⟩
  | false =>
    rw [show placeB x y = false by rw [placeB, hx, Bool.false_and]]
    go_enter Try.func47, Try.ntmps47
    go_wp2_with fail
    refine (isIn_any _ _ _ _).mono ?_
    rintro e w1 ⟨rfl, rfl⟩
    rw [hx]
    go_wp2_with fail
    go_ret
    exact ⟨rfl, (Below.refl _ _).alloc (Nat.le_refl _) _⟩
/-- a dot, a place, as values -/
def dv (d : Dot) : Value := .agg #[.int .i64 d.x, .int .i64 d.y, .int .i64 d.t, .int .i64 d.p]
def pv (x y : Int) : Value := .agg #[.int .i64 x, .int .i64 y]
theorem at_any (d : Dot) (w : World) : Calls Try.prog 42 #[.agg #[.int .i64 d.x, .int .i64 d.y, .int .i64 d.t, .int .i64 d.p]] w fun e w' => e = .returned (pv d.x d.y) ∧ Below w.heap.size w w' := by
  go_enter Try.func42, Try.ntmps42
  go_wp2_with fail
  exact bodyPost_ret (v := .agg #[.int .i64 d.x, .int .i64 d.y]) (by simp [results, Try.results42, go_sem]) rfl ⟨rfl, ((Below.refl _ _).alloc (Nat.le_refl _) _).alloc (by simp) _⟩
theorem mul_bd {a b m : Int} (ha : -m ≤ a) (ha' : a ≤ m) (hb : -m ≤ b) (hb' : b ≤ m) (hm : 0 ≤ m) : -(m * m) ≤ a * b ∧ a * b ≤ m * m := by
  have key : ∀ {u v : Int}, 0 ≤ u → u ≤ m → 0 ≤ v → v ≤ m → 0 ≤ u * v ∧ u * v ≤ m * m := fun h1 h2 h3 h4 => ⟨Int.mul_nonneg h1 h3, Int.mul_le_mul h2 h4 h3 hm⟩
  rcases Int.le_total 0 a with h1 | h1 <;> rcases Int.le_total 0 b with h2 | h2
  · have := key h1 ha' h2 hb'; omega
  · have := key h1 ha' (v := -b) (by omega) (by omega); rw [Int.mul_neg] at this; omega
  · have := key (u := -a) (by omega) (by omega) h2 hb'; rw [Int.neg_mul] at this; omega
  · have := key (u := -a) (v := -b) (by omega) (by omega) (by omega) (by omega); rw [Int.neg_mul_neg] at this; omega
theorem dot_any (a b c d : Int) (w : World) (ha : -4095 ≤ a) (ha' : a ≤ 4095) (hb : -4095 ≤ b) (hb' : b ≤ 4095) (hc : -4095 ≤ c) (hc' : c ≤ 4095) (hd : -4095 ≤ d) (hd' : d ≤ 4095) :
    Calls Try.prog 62 #[.agg #[.int .i64 a, .int .i64 b], .agg #[.int .i64 c, .int .i64 d]] w fun e w' => e = .returned (.int .i64 (a * c + b * d)) ∧ Below w.heap.size w w' := by
  have h1 := mul_bd ha ha' hc hc' (by omega)
  have h2 := mul_bd hb hb' hd hd' (by omega)
  go_enter Try.func62, Try.ntmps62
  go_wp2_with fail
  go_ret
  exact ⟨rfl, ((Below.refl _ _).alloc (Nat.le_refl _) _).alloc (by simp) _⟩
end Go.Proofs.Ytgmabepdhbnppaa
